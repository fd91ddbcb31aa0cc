/- The program's functions by the ghost evaluator: what each computes, and that it does. -/
import Derived.Test.YtnnbpmemkekbfaaGreatGh47
import Derived.Test.YtnnbpmemkekbfaaGreatGh48
import Derived.Test.YtnnbpmemkekbfaaGreatGh45
import Derived.Test.YtnnbpmemkekbfaaGreatProg
import Derived.KernelRfl
set_option linter.unusedVariables false
set_option linter.unusedSimpArgs false
set_option maxRecDepth 100000
set_option maxHeartbeats 2000000
namespace Go.Proofs.Gh.Gm
def tys_k1 : List (Nat × TI) := [(3, ⟨false, 8, [.int .i64], [.int 0], .scalar, false⟩),
  (4, ⟨false, 1, [.bool], [.bool false], .scalar, false⟩),
  (25, ⟨false, 24, [.sl 1], [.sl true (some true) 1 []], .slice 3, false⟩),
  (32, ⟨true, 16, [.int .i64, .bool], [.int 0, .bool false], .struct [(0, 1, false), (1, 1, false)], true⟩),
  (46, ⟨true, 16, [.int .i64, .bool], [.int 0, .bool false], .struct [(0, 1, false), (1, 1, false)], true⟩),
  (73, ⟨false, 24, [.sl 2], [.sl true (some true) 2 []], .slice 90, false⟩),
  (76, ⟨false, 24, [.sl 4], [.sl true (some true) 4 []], .slice 92, false⟩),
  (80, ⟨false, 24, [.sl 4], [.sl true (some true) 4 []], .slice 112, false⟩),
  (90, ⟨true, 16, [.int .i64, .int .i64], [.int 0, .int 0], .struct [(0, 1, false), (1, 1, false)], true⟩),
  (92, ⟨true, 32, [.int .i64, .int .i64, .int .i64, .int .i64], [.int 0, .int 0, .int 0, .int 0], .struct [(0, 1, false), (1, 1, false), (2, 1, false), (3, 1, false)], true⟩),
  (112, ⟨true, 32, [.int .i64, .int .i64, .int .i64, .int .i64], [.int 0, .int 0, .int 0, .int 0], .struct [(0, 1, false), (1, 1, false), (2, 1, false), (3, 1, false)], true⟩)]
theorem tys_k1_eq : tys_k1.map (fun x => tiOf Go.Proofs.Tryz.prog x.1 x.2.cks) = tys_k1.map fun x => some x.2 := by kernel_rfl
theorem follows : Go.Proofs.Tryz.prog.follows .mixedOrders = true := by kernel_rfl
abbrev encInt (n : Int) : List C := [.int n]
@[simp] theorem encInt_free (l : List Int) : rowsFree (l.map encInt) = true := rowsFree_map fun _ _ => rfl
@[simp] theorem encInt_freeze (l : List Int) : freezeRows (l.map encInt) = l.map encInt := freezeRows_map fun _ _ => rfl
theorem encInt_plain (x : Int) : (encInt x).length = 1 ∧ ∀ c ∈ encInt x, ∃ v : Value, c = .v v := ⟨rfl, by intro c hc; simp [encInt] at hc; subst hc; exact ⟨_, rfl⟩⟩
@[simp] theorem md_Int0 {l : List Int} {i : Nat} (v : Int) (hi : i < l.length) : md (l.map encInt) i 0 (.int v) = (l.set i v).map encInt := md_map hi rfl
/-! weqIntS: loop.example/g00712/laws.eqIntS -/
@[reducible] def hweqIntS_4 : Sh := ⟨[.one (.o (.sl false 1)), .one (.o (.sl false 1)), .one (.o (.i .i64))], []⟩
@[reducible] def xweqIntS_4 : List (Ex × Sh) := [(.ret, ⟨[.one (.o .b)], []⟩), (.exit 0, ⟨[.one (.o .u)], []⟩)]
noncomputable def RweqIntS_4 : KC xweqIntS_4 (hweqIntS_4.K → hweqIntS_4.K) := fun k0 k1 nx v1 v2 v3 v4 v5 => bif decide (v5 < (v2.length : Int)) then ix v5 v2 ((v2[Int.toNat v5]?).bind fun w1 => tRo [.int .i64] w1 fun n1 => ix v5 v4 ((v4[Int.toNat v5]?).bind fun w2 => tRo [.int .i64] w2 fun n2 => bif n1 != n2 then k0 false else nx v1 v2 v3 v4 (W (v5 + 1)))) else k1
noncomputable def LweqIntS_4 : Lp := ⟨4, [0, 1, 5], [4], 0, 26, hweqIntS_4, xweqIntS_4, RweqIntS_4⟩
noncomputable def QweqIntS : Fx := ⟨Go.Proofs.Tryz.f63, [.ro, .ro], false, mkEnv tys_k1 [] [], fun id => bif Nat.beq id 6 then .sq [0, 1, 2, 3, 4, 5, 6, 7, 8] .stop else .stop, [LweqIntS_4]⟩
noncomputable def FweqIntS : List S → Option Res := veil QweqIntS.run
noncomputable def SweqIntS : Spec := ⟨[.ro, .ro], false, FweqIntS⟩
theorem mweqIntS (x1 : Option Bool) (x2 : List (List C)) (x3 : Option Bool) (x4 : List (List C)) : FweqIntS [.one (.sl false x1 1 x2), .one (.sl false x3 1 x4)] = bif (x2.length : Int) != (x4.length : Int) then fr false 2 [.one (.bool false)] else iterC (RweqIntS_4 (fun y1 => fr false 2 [.one (.bool y1)]) (fr false 2 [.one (.bool true)])) FUEL x1 x2 x3 x4 0 := Fx.eq (by kernel_rfl)
theorem stweqIntS_4 : LweqIntS_4.Step QweqIntS.E QweqIntS.dr QweqIntS.lp ((findLoop 4 QweqIntS.code).getD .skip) := fun k nx v => by kernel_rfl
theorem okweqIntS : CalleeOk Go.Proofs.Tryz.prog 63 SweqIntS := Fx.ok (F := QweqIntS) follows (envTy_mk tys_k1_eq) (envSpec_of (specsOk_nil)) Go.Proofs.Tryz.func63 (by kernel_rfl) (by kernel_rfl) (by
  rw [show subs QweqIntS.code = [(findLoop 4 QweqIntS.code).getD .skip] by kernel_rfl]
  exact ⟨stepAt_some (by kernel_rfl) stweqIntS_4, trivial⟩) (by kernel_rfl) (by kernel_rfl) rfl
theorem FweqIntS_at (nl : Option Bool) (a : List Int) (nl' : Option Bool) (b : List Int) (h : a.length < 4611686018427387904) : FweqIntS [S.one (C.sl false nl 1 (a.map encInt)), S.one (C.sl false nl' 1 (b.map encInt))] = some (S.one (C.bool (decide (a = b))), [S.one C.unk, S.one C.unk]) := by
  rw [mweqIntS]
  by_cases hl : a.length = b.length
  · have e1 : (((a.map encInt).length : Int) != ((b.map encInt).length : Int)) = false := by simp [hl]
    rw [e1, cond_false]
    refine (iter_eq (h := hweqIntS_4) a b (fun i f => f nl (a.map encInt) nl' (b.map encInt) (i : Int)) (fr false 2 [.one (.bool true)]) (fr false 2 [.one (.bool false)]) h hl ?_ ?_).trans ?_
    · intro nx; simp [RweqIntS_4]
    · intro nx i hi hi' hW
      have e' : (a[i] == b[i]) = decide (a[i] = b[i]) := by by_cases e : a[i] = b[i] <;> simp [e]
      simp [RweqIntS_4, hi, hi', hW, bne, e']
      try (cases decide (a[i] = b[i]) <;> simp)
    · by_cases e : a = b <;> simp [e]
  · have e1 : (((a.map encInt).length : Int) != ((b.map encInt).length : Int)) = true := by simp; omega
    have e2 : ¬ a = b := fun e => hl (by rw [e])
    rw [e1]; simp [e2]
def mkIntS (n : Nat) (k : Int) : List Int := (List.range n).map fun (i : Nat) => k + (i : Int)
@[simp] theorem mkIntS_len (n : Nat) (k : Int) : (mkIntS n k).length = n := by simp [mkIntS]
/-! wmarkIntS: loop.example/g00712/laws.markIntS -/
@[reducible] def hwmarkIntS_2 : Sh := ⟨[.one (.o (.al 0 0 [])), .one (.o (.i .i64)), .one (.o (.i .i64))], [(false, [.o (.sl true 1)])]⟩
@[reducible] def xwmarkIntS_2 : List (Ex × Sh) := [(.exit 0, ⟨[.one (.o (.i .i64))], [(false, [.o (.sl true 1)])]⟩)]
noncomputable def RwmarkIntS_2 : KC xwmarkIntS_2 (hwmarkIntS_2.K → hwmarkIntS_2.K) := fun k0 nx v1 v2 v3 v4 => bif decide (v2 < (v4.length : Int)) then ix v2 v4 (oc (.int .i64) v4 (Int.toNat v2) 0 ((let e1 : List (List C) := md v4 (Int.toNat v2) 0 (.int v1); nx (W (v1 + 1)) (W (v2 + 1)) v3 e1))) else k0 v1 v3 v4
noncomputable def LwmarkIntS_2 : Lp := ⟨2, [0, 1, 5], [1], 1, 19, hwmarkIntS_2, xwmarkIntS_2, RwmarkIntS_2⟩
noncomputable def QwmarkIntS : Fx := ⟨Go.Proofs.Tryz.f67, [.io, .ro], false, mkEnv tys_k1 [] [], fun _ => .stop, [LwmarkIntS_2]⟩
noncomputable def FwmarkIntS : List S → Option Res := veil QwmarkIntS.run
noncomputable def SwmarkIntS : Spec := ⟨[.io, .ro], false, FwmarkIntS⟩
theorem mwmarkIntS (x1 : Option Bool) (x2 : List (List C)) (x3 : Int) : FwmarkIntS [.one (.sl true x1 1 x2), .one (.int x3)] = iterC (RwmarkIntS_2 (fun y1 y2 y3 => fin false [.one (.sl true x1 1 x2), .one (.int x3)] [.one (.int y1)] [.one (.sl true y2 1 y3), .one .unk])) FUEL x3 0 x1 x2 := Fx.eq (by kernel_rfl)
theorem stwmarkIntS_2 : LwmarkIntS_2.Step QwmarkIntS.E QwmarkIntS.dr QwmarkIntS.lp ((findLoop 2 QwmarkIntS.code).getD .skip) := fun k nx v => by kernel_rfl
theorem okwmarkIntS : CalleeOk Go.Proofs.Tryz.prog 67 SwmarkIntS := Fx.ok (F := QwmarkIntS) follows (envTy_mk tys_k1_eq) (envSpec_of (specsOk_nil)) Go.Proofs.Tryz.func67 (by kernel_rfl) (by kernel_rfl) (by
  rw [show subs QwmarkIntS.code = [(findLoop 2 QwmarkIntS.code).getD .skip] by kernel_rfl]
  exact ⟨stepAt_some (by kernel_rfl) stwmarkIntS_2, trivial⟩) (by kernel_rfl) (by kernel_rfl) rfl
theorem FwmarkIntS_at (nl : Option Bool) (l : List Int) (k : Int) (h : l.length ≤ 1048576 ∧ 0 ≤ k ∧ k ≤ 1152921504606846976) : FwmarkIntS [S.one (C.sl true nl 1 (l.map encInt)), S.one (C.int k)] = some (S.one (C.int (k + (l.length : Int))), [S.one (C.sl true nl 1 ((mkIntS l.length k).map encInt)), S.one C.unk]) := by
  rw [mwmarkIntS]
  have key : ∀ k0 : Int → Option Bool → List (List C) → Option Res, iterC (RwmarkIntS_2 k0) FUEL k 0 nl (l.map encInt) = k0 (k + (l.length : Int)) nl ((mkIntS l.length k).map encInt) := fun k0 => by
    have := iter_set (h := hwmarkIntS_2) (fb := RwmarkIntS_2 k0) l (fun (i : Nat) => (k + (i : Int) : Int)) (fun i a f => f (k + (i : Int)) (i : Int) nl (a.map encInt)) (fun a => k0 (k + (l.length : Int)) nl (a.map encInt)) (by omega) ?_ ?_
    · simpa [mkIntS] using this
    · intro nx a ha
      simp [RwmarkIntS_2, ha]
    · intro nx i a hi ha hW
      have w0 : W (k + (i : Int) + 1) = k + (i : Int) + 1 := by rw [W_eq (by omega) (by omega)]
      have w : k + ((i : Int) + 1) = k + (i : Int) + 1 := by omega
      simp [-List.map_set, RwmarkIntS_2, hi, hW, w, w0]
  rw [key]
  simp
/-! wheldIntS: loop.example/g00712/laws.heldIntS -/
@[reducible] def hwheldIntS_2 : Sh := ⟨[.one (.o (.sl false 1)), .one (.o (.i .i64)), .one (.o (.i .i64))], []⟩
@[reducible] def xwheldIntS_2 : List (Ex × Sh) := [(.ret, ⟨[.one (.o (.i .i64)), .one (.o (.i .i64))], []⟩), (.exit 0, ⟨[.one (.o (.i .i64)), .one (.o .u)], []⟩)]
noncomputable def RwheldIntS_2 : KC xwheldIntS_2 (hwheldIntS_2.K → hwheldIntS_2.K) := fun k0 k1 nx v1 v2 v3 v4 => bif decide (v4 < (v2.length : Int)) then ix v4 v2 ((v2[Int.toNat v4]?).bind fun w1 => tRo [.int .i64] w1 fun n1 => bif n1 != v3 then k0 v3 (-1) else nx v1 v2 (W (v3 + 1)) (W (v4 + 1))) else k1 v3
noncomputable def LwheldIntS_2 : Lp := ⟨2, [0, 1, 5], [1, 4], 0, 21, hwheldIntS_2, xwheldIntS_2, RwheldIntS_2⟩
noncomputable def QwheldIntS : Fx := ⟨Go.Proofs.Tryz.f69, [.ro, .ro], false, mkEnv tys_k1 [] [], fun _ => .stop, [LwheldIntS_2]⟩
noncomputable def FwheldIntS : List S → Option Res := veil QwheldIntS.run
noncomputable def SwheldIntS : Spec := ⟨[.ro, .ro], false, FwheldIntS⟩
theorem mwheldIntS (x1 : Option Bool) (x2 : List (List C)) (x3 : Int) : FwheldIntS [.one (.sl false x1 1 x2), .one (.int x3)] = iterC (RwheldIntS_2 (fun y1 y2 => fr false 2 [.one (.int y2)]) (fun y3 => fr false 2 [.one (.int y3)])) FUEL x1 x2 x3 0 := Fx.eq (by kernel_rfl)
theorem stwheldIntS_2 : LwheldIntS_2.Step QwheldIntS.E QwheldIntS.dr QwheldIntS.lp ((findLoop 2 QwheldIntS.code).getD .skip) := fun k nx v => by kernel_rfl
theorem okwheldIntS : CalleeOk Go.Proofs.Tryz.prog 69 SwheldIntS := Fx.ok (F := QwheldIntS) follows (envTy_mk tys_k1_eq) (envSpec_of (specsOk_nil)) Go.Proofs.Tryz.func69 (by kernel_rfl) (by kernel_rfl) (by
  rw [show subs QwheldIntS.code = [(findLoop 2 QwheldIntS.code).getD .skip] by kernel_rfl]
  exact ⟨stepAt_some (by kernel_rfl) stwheldIntS_2, trivial⟩) (by kernel_rfl) (by kernel_rfl) rfl
theorem FwheldIntS_at (nl : Option Bool) (n : Nat) (k : Int) (h : n ≤ 1048576 ∧ 0 ≤ k ∧ k ≤ 1152921504606846976) : FwheldIntS [S.one (C.sl false nl 1 ((mkIntS n k).map encInt)), S.one (C.int k)] = some (S.one (C.int (k + (n : Int))), [S.one C.unk, S.one C.unk]) := by
  rw [mwheldIntS]
  have := iter_all (h := hwheldIntS_2) (fb := RwheldIntS_2 (fun y1 y2 => fr false 2 [.one (.int y2)]) (fun y3 => fr false 2 [.one (.int y3)])) (mkIntS n k) (fun i f => f nl ((mkIntS n k).map encInt) (k + (i : Int)) (i : Int)) (fun _ => true) (fr false 2 [.one (.int (k + (n : Int)))]) none (by simp; omega) ?_ ?_
  · simpa using this
  · intro nx; simp [RwheldIntS_2]
  · intro nx i hi hW
    have hi' : i < n := by simpa using hi
    have w0 : W (k + (i : Int) + 1) = k + (i : Int) + 1 := by rw [W_eq (by omega) (by omega)]
    have w : k + ((i : Int) + 1) = k + (i : Int) + 1 := by omega
    simp [RwheldIntS_2, mkIntS, hi', hW, w, w0]
@[ext] structure Instr where
  op : Int
  r : Int
  s : Int
  n : Int
deriving DecidableEq
abbrev encInstr (c : Instr) : List C := [.int c.op, .int c.r, .int c.s, .int c.n]
@[simp] theorem encInstr_free (l : List Instr) : rowsFree (l.map encInstr) = true := rowsFree_map fun _ _ => rfl
@[simp] theorem encInstr_freeze (l : List Instr) : freezeRows (l.map encInstr) = l.map encInstr := freezeRows_map fun _ _ => rfl
theorem encInstr_plain (x : Instr) : (encInstr x).length = 4 ∧ ∀ c ∈ encInstr x, ∃ v : Value, c = .v v := ⟨rfl, by intro c hc; simp [encInstr] at hc; rcases hc with rfl | rfl | rfl | rfl <;> exact ⟨_, rfl⟩⟩
@[simp] theorem md_Instr0 {l : List Instr} {i : Nat} (v : Int) (hi : i < l.length) : md (l.map encInstr) i 0 (.int v) = (l.set i ⟨v, l[i].r, l[i].s, l[i].n⟩).map encInstr := md_map hi rfl
@[simp] theorem md_Instr1 {l : List Instr} {i : Nat} (v : Int) (hi : i < l.length) : md (l.map encInstr) i 1 (.int v) = (l.set i ⟨l[i].op, v, l[i].s, l[i].n⟩).map encInstr := md_map hi rfl
@[simp] theorem md_Instr2 {l : List Instr} {i : Nat} (v : Int) (hi : i < l.length) : md (l.map encInstr) i 2 (.int v) = (l.set i ⟨l[i].op, l[i].r, v, l[i].n⟩).map encInstr := md_map hi rfl
@[simp] theorem md_Instr3 {l : List Instr} {i : Nat} (v : Int) (hi : i < l.length) : md (l.map encInstr) i 3 (.int v) = (l.set i ⟨l[i].op, l[i].r, l[i].s, v⟩).map encInstr := md_map hi rfl
/-! wszInstrS: loop.example/g00712/laws.szInstrS -/
noncomputable def QwszInstrS : Fx := ⟨Go.Proofs.Tryz.f45, [.ro, .ro], false, mkEnv tys_k1 [] [], fun _ => .stop, []⟩
noncomputable def FwszInstrS : List S → Option Res := veil QwszInstrS.run
noncomputable def SwszInstrS : Spec := ⟨[.ro, .ro], false, FwszInstrS⟩
theorem mwszInstrS (x1 : Option Bool) (x2 : List (List C)) (x3 : Int) : FwszInstrS [.one (.sl false x1 4 x2), .one (.int x3)] = bif decide (W (x3 - (x2.length : Int)) < 0) then fr false 2 [.one (.int (-1))] else fr false 2 [.one (.int (W (x3 - (x2.length : Int))))] := Fx.eq (by kernel_rfl)
theorem okwszInstrS : CalleeOk Go.Proofs.Tryz.prog 45 SwszInstrS := Fx.ok (F := QwszInstrS) follows (envTy_mk tys_k1_eq) (envSpec_of (specsOk_nil)) Go.Proofs.Tryz.func45 (by kernel_rfl) (by kernel_rfl) (by rw [show subs QwszInstrS.code = [] by kernel_rfl]; trivial) (by kernel_rfl) (by kernel_rfl) rfl
theorem FwszInstrS_at (nl : Option Bool) (l : List Instr) (n : Int) (h : l.length ≤ 9223372036854775807 ∧ 0 ≤ n ∧ n ≤ 1048576) : FwszInstrS [S.one (C.sl false nl 4 (l.map encInstr)), S.one (C.int n)] = some (S.one (C.int (if (l.length : Int) ≤ n then n - l.length else -1)), [S.one C.unk, S.one C.unk]) := by
  simp only [mwszInstrS, List.length_map]
  rw [W_eq (by omega) (by omega)]
  by_cases hn : (l.length : Int) ≤ n
  · have : ¬ n - (l.length : Int) < 0 := by omega
    simp [hn, this]
  · have : n - (l.length : Int) < 0 := by omega
    simp [hn, this]
/-! wtoInstr: loop.example/g00712/laws.toInstr -/
noncomputable def QwtoInstr : Fx := ⟨Go.Proofs.Tryz.f82, [.ro], false, mkEnv tys_k1 [] [], fun _ => .stop, []⟩
noncomputable def FwtoInstr : List S → Option Res := veil QwtoInstr.run
noncomputable def SwtoInstr : Spec := ⟨[.ro], false, FwtoInstr⟩
theorem mwtoInstr (x1 : Int) (x2 : Int) (x3 : Int) (x4 : Int) : FwtoInstr [.agg [.int x1, .int x2, .int x3, .int x4]] = fr false 1 [.agg [.int x1, .int x2, .int x3, .int x4]] := Fx.eq (by kernel_rfl)
theorem okwtoInstr : CalleeOk Go.Proofs.Tryz.prog 82 SwtoInstr := Fx.ok (F := QwtoInstr) follows (envTy_mk tys_k1_eq) (envSpec_of (specsOk_nil)) Go.Proofs.Tryz.func82 (by kernel_rfl) (by kernel_rfl) (by rw [show subs QwtoInstr.code = [] by kernel_rfl]; trivial) (by kernel_rfl) (by kernel_rfl) rfl
theorem FwtoInstr_at (c : Instr) : FwtoInstr [S.agg (encInstr c)] = some (S.agg (encInstr c), [S.one C.unk]) := by
  simp [mwtoInstr, encInstr, C.weak]
/-! wtoInstrS: loop.example/g00712/laws.toInstrS -/
@[reducible] def hwtoInstrS_3 : Sh := ⟨[.one (.o (.sl false 4)), .one (.o (.al 2 0 [])), .one (.o (.i .i64))], [(true, [.o .u]), (true, [.o .u]), (true, [.o (.sl true 4)])]⟩
@[reducible] def xwtoInstrS_3 : List (Ex × Sh) := [(.exit 0, ⟨[.one (.o (.al 2 0 []))], [(true, [.o .u]), (true, [.o .u]), (true, [.o (.sl true 4)])]⟩)]
noncomputable def RwtoInstrS_3 : KC xwtoInstrS_3 (hwtoInstrS_3.K → hwtoInstrS_3.K) := fun k0 nx v1 v2 v3 v4 v5 => bif decide (v3 < (v2.length : Int)) then ix v3 v2 ((v2[Int.toNat v3]?).bind fun w1 => tRo [.int .i64, .int .i64, .int .i64, .int .i64] w1 fun n1 n2 n3 n4 => cV true [.int .i64, .int .i64, .int .i64, .int .i64] (FwtoInstr [.agg [.int n1, .int n2, .int n3, .int n4]]) fun n5 n6 n7 n8 => ix v3 v5 (oc (.int .i64) v5 (Int.toNat v3) 0 ((let e1 : List (List C) := md v5 (Int.toNat v3) 0 (.int n5); oc (.int .i64) e1 (Int.toNat v3) 1 ((let e2 : List (List C) := md e1 (Int.toNat v3) 1 (.int n6); oc (.int .i64) e2 (Int.toNat v3) 2 ((let e3 : List (List C) := md e2 (Int.toNat v3) 2 (.int n7); oc (.int .i64) e3 (Int.toNat v3) 3 ((let e4 : List (List C) := md e3 (Int.toNat v3) 3 (.int n8); nx v1 v2 (W (v3 + 1)) v4 e4)))))))))) else k0 v4 v5
noncomputable def LwtoInstrS_3 : Lp := ⟨3, [0, 3, 4], [3], 2, 23, hwtoInstrS_3, xwtoInstrS_3, RwtoInstrS_3⟩
noncomputable def QwtoInstrS : Fx := ⟨Go.Proofs.Tryz.f54, [.ro], false, mkEnv tys_k1 [(82, SwtoInstr)] [], fun _ => .stop, [LwtoInstrS_3]⟩
noncomputable def FwtoInstrS : List S → Option Res := veil QwtoInstrS.run
noncomputable def SwtoInstrS : Spec := ⟨[.ro], false, FwtoInstrS⟩
theorem mwtoInstrS (x1 : Option Bool) (x2 : List (List C)) : FwtoInstrS [.one (.sl false x1 4 x2)] = if 0 ≤ (x2.length : Int) ∧ (x2.length : Int) ≤ (x2.length : Int) ∧ (x2.length : Int) * 32 ≤ (LIM : Int) ∧ 0 < 4 then iterC (RwtoInstrS_3 (fun y1 y2 => fr false 1 [.one (.sl true y1 4 y2)])) FUEL x1 x2 0 (some false) (List.replicate (Int.toNat (x2.length : Int)) [.int 0, .int 0, .int 0, .int 0]) else none := Fx.eq (by kernel_rfl)
theorem stwtoInstrS_3 : LwtoInstrS_3.Step QwtoInstrS.E QwtoInstrS.dr QwtoInstrS.lp ((findLoop 3 QwtoInstrS.code).getD .skip) := fun k nx v => by kernel_rfl
theorem okwtoInstrS : CalleeOk Go.Proofs.Tryz.prog 54 SwtoInstrS := Fx.ok (F := QwtoInstrS) follows (envTy_mk tys_k1_eq) (envSpec_of (specsOk_cons okwtoInstr specsOk_nil)) Go.Proofs.Tryz.func54 (by kernel_rfl) (by kernel_rfl) (by
  rw [show subs QwtoInstrS.code = [(findLoop 3 QwtoInstrS.code).getD .skip] by kernel_rfl]
  exact ⟨stepAt_some (by kernel_rfl) stwtoInstrS_3, trivial⟩) (by kernel_rfl) (by kernel_rfl) rfl
theorem FwtoInstrS_at (nl : Option Bool) (l : List Instr) (h : l.length ≤ 1048576) : FwtoInstrS [S.one (C.sl false nl 4 (l.map encInstr))] = some (S.one (C.sl true (some false) 4 (l.map encInstr)), [S.one C.unk]) := by
  have hz : List.replicate l.length [.int 0, .int 0, .int 0, .int 0] = (List.replicate l.length (⟨0, 0, 0, 0⟩ : Instr)).map encInstr := by simp
  rw [mwtoInstrS, if_pos (by simp [LIM]; omega), List.length_map, Int.toNat_natCast, hz]
  have key : ∀ k0 : Option Bool → List (List C) → Option Res, iterC (RwtoInstrS_3 k0) FUEL nl (l.map encInstr) 0 (some false) ((List.replicate l.length (⟨0, 0, 0, 0⟩ : Instr)).map encInstr) = k0 (some false) (l.map encInstr) := fun k0 => by
    refine (iter_set (h := hwtoInstrS_3) (List.replicate l.length (⟨0, 0, 0, 0⟩ : Instr)) (fun i => l.getD i ⟨0, 0, 0, 0⟩) (fun i a f => f nl (l.map encInstr) (i : Int) (some false) (a.map encInstr)) (fun a => k0 (some false) (a.map encInstr)) (by simp; omega) ?_ ?_).trans ?_
    · intro nx a ha
      simp [RwtoInstrS_3]
    · intro nx i a hi ha hW
      have hi' : i < l.length := by simpa [ha] using hi
      simp [-List.map_set, RwtoInstrS_3, FwtoInstr_at, hi', hi, hW, List.getD, List.getElem?_eq_getElem hi']
    · congr 2
      apply List.ext_getElem
      · simp
      · intro k h1 h2
        simp only [List.length_map, List.length_range, List.length_replicate] at h1
        simp [List.getD, h2]
  rw [key]
  simp
/-! weqInstr: loop.example/g00712/laws.eqInstr -/
noncomputable def QweqInstr : Fx := ⟨Go.Proofs.Tryz.f89, [.ro, .ro], false, mkEnv tys_k1 [] [], fun _ => .stop, []⟩
noncomputable def FweqInstr : List S → Option Res := veil QweqInstr.run
noncomputable def SweqInstr : Spec := ⟨[.ro, .ro], false, FweqInstr⟩
theorem mweqInstr (x1 : Int) (x2 : Int) (x3 : Int) (x4 : Int) (x5 : Int) (x6 : Int) (x7 : Int) (x8 : Int) : FweqInstr [.agg [.int x1, .int x2, .int x3, .int x4], .agg [.int x5, .int x6, .int x7, .int x8]] = bif x1 != x5 then fr false 2 [.one (.bool false)] else bif x2 != x6 then fr false 2 [.one (.bool false)] else bif x3 != x7 then fr false 2 [.one (.bool false)] else bif x4 != x8 then fr false 2 [.one (.bool false)] else fr false 2 [.one (.bool true)] := Fx.eq (by kernel_rfl)
theorem okweqInstr : CalleeOk Go.Proofs.Tryz.prog 89 SweqInstr := Fx.ok (F := QweqInstr) follows (envTy_mk tys_k1_eq) (envSpec_of (specsOk_nil)) Go.Proofs.Tryz.func89 (by kernel_rfl) (by kernel_rfl) (by rw [show subs QweqInstr.code = [] by kernel_rfl]; trivial) (by kernel_rfl) (by kernel_rfl) rfl
theorem FweqInstr_at (a : Instr) (b : Instr) : FweqInstr [S.agg (encInstr a), S.agg (encInstr b)] = some (S.one (C.bool (decide (a = b))), [S.one C.unk, S.one C.unk]) := by
  have e : decide (a = b) = ((a.op == b.op) && (a.r == b.r) && (a.s == b.s) && (a.n == b.n)) := by rw [Bool.eq_iff_iff]; simp [Instr.ext_iff, and_assoc]
  rw [mweqInstr, e]
  simp only [bne]
  cases (a.op == b.op) <;> cases (a.r == b.r) <;> cases (a.s == b.s) <;> cases (a.n == b.n) <;> simp
/-! weqInstrS: loop.example/g00712/laws.eqInstrS -/
@[reducible] def hweqInstrS_4 : Sh := ⟨[.one (.o (.sl false 4)), .one (.o (.sl false 4)), .one (.o (.i .i64))], []⟩
@[reducible] def xweqInstrS_4 : List (Ex × Sh) := [(.ret, ⟨[.one (.o .b)], []⟩), (.exit 0, ⟨[.one (.o .u)], []⟩)]
noncomputable def RweqInstrS_4 : KC xweqInstrS_4 (hweqInstrS_4.K → hweqInstrS_4.K) := fun k0 k1 nx v1 v2 v3 v4 v5 => bif decide (v5 < (v2.length : Int)) then ix v5 v2 ((v2[Int.toNat v5]?).bind fun w1 => tRo [.int .i64, .int .i64, .int .i64, .int .i64] w1 fun n1 n2 n3 n4 => ix v5 v4 ((v4[Int.toNat v5]?).bind fun w2 => tRo [.int .i64, .int .i64, .int .i64, .int .i64] w2 fun n5 n6 n7 n8 => cV false [.bool] (FweqInstr [.agg [.int n1, .int n2, .int n3, .int n4], .agg [.int n5, .int n6, .int n7, .int n8]]) fun b1 => bif !b1 then k0 false else nx v1 v2 v3 v4 (W (v5 + 1)))) else k1
noncomputable def LweqInstrS_4 : Lp := ⟨4, [0, 1, 5], [4], 0, 27, hweqInstrS_4, xweqInstrS_4, RweqInstrS_4⟩
noncomputable def QweqInstrS : Fx := ⟨Go.Proofs.Tryz.f65, [.ro, .ro], false, mkEnv tys_k1 [(89, SweqInstr)] [], fun id => bif Nat.beq id 6 then .sq [0, 1, 2, 3, 4, 5, 6, 7, 8, 9] .stop else .stop, [LweqInstrS_4]⟩
noncomputable def FweqInstrS : List S → Option Res := veil QweqInstrS.run
noncomputable def SweqInstrS : Spec := ⟨[.ro, .ro], false, FweqInstrS⟩
theorem mweqInstrS (x1 : Option Bool) (x2 : List (List C)) (x3 : Option Bool) (x4 : List (List C)) : FweqInstrS [.one (.sl false x1 4 x2), .one (.sl false x3 4 x4)] = bif (x2.length : Int) != (x4.length : Int) then fr false 2 [.one (.bool false)] else iterC (RweqInstrS_4 (fun y1 => fr false 2 [.one (.bool y1)]) (fr false 2 [.one (.bool true)])) FUEL x1 x2 x3 x4 0 := Fx.eq (by kernel_rfl)
theorem stweqInstrS_4 : LweqInstrS_4.Step QweqInstrS.E QweqInstrS.dr QweqInstrS.lp ((findLoop 4 QweqInstrS.code).getD .skip) := fun k nx v => by kernel_rfl
theorem okweqInstrS : CalleeOk Go.Proofs.Tryz.prog 65 SweqInstrS := Fx.ok (F := QweqInstrS) follows (envTy_mk tys_k1_eq) (envSpec_of (specsOk_cons okweqInstr specsOk_nil)) Go.Proofs.Tryz.func65 (by kernel_rfl) (by kernel_rfl) (by
  rw [show subs QweqInstrS.code = [(findLoop 4 QweqInstrS.code).getD .skip] by kernel_rfl]
  exact ⟨stepAt_some (by kernel_rfl) stweqInstrS_4, trivial⟩) (by kernel_rfl) (by kernel_rfl) rfl
theorem FweqInstrS_at (nl : Option Bool) (a : List Instr) (nl' : Option Bool) (b : List Instr) (h : a.length < 4611686018427387904) : FweqInstrS [S.one (C.sl false nl 4 (a.map encInstr)), S.one (C.sl false nl' 4 (b.map encInstr))] = some (S.one (C.bool (decide (a = b))), [S.one C.unk, S.one C.unk]) := by
  rw [mweqInstrS]
  by_cases hl : a.length = b.length
  · have e1 : (((a.map encInstr).length : Int) != ((b.map encInstr).length : Int)) = false := by simp [hl]
    rw [e1, cond_false]
    refine (iter_eq (h := hweqInstrS_4) a b (fun i f => f nl (a.map encInstr) nl' (b.map encInstr) (i : Int)) (fr false 2 [.one (.bool true)]) (fr false 2 [.one (.bool false)]) h hl ?_ ?_).trans ?_
    · intro nx; simp [RweqInstrS_4]
    · intro nx i hi hi' hW
      have e' : (a[i] == b[i]) = decide (a[i] = b[i]) := by by_cases e : a[i] = b[i] <;> simp [e]
      simp [RweqInstrS_4, hi, hi', hW, bne, e', FweqInstr_at]
      try (cases decide (a[i] = b[i]) <;> simp)
    · by_cases e : a = b <;> simp [e]
  · have e1 : (((a.map encInstr).length : Int) != ((b.map encInstr).length : Int)) = true := by simp; omega
    have e2 : ¬ a = b := fun e => hl (by rw [e])
    rw [e1]; simp [e2]
def mkInstrS (n : Nat) (k : Int) : List Instr := (List.range n).map fun (i : Nat) => ⟨k + 4 * (i : Int), k + 4 * (i : Int) + 1, k + 4 * (i : Int) + 2, k + 4 * (i : Int) + 3⟩
@[simp] theorem mkInstrS_len (n : Nat) (k : Int) : (mkInstrS n k).length = n := by simp [mkInstrS]
/-! wmarkInstrS: loop.example/g00712/laws.markInstrS -/
@[reducible] def hwmarkInstrS_2 : Sh := ⟨[.one (.o (.al 0 0 [])), .one (.o (.i .i64)), .one (.o (.i .i64))], [(false, [.o (.sl true 4)])]⟩
@[reducible] def xwmarkInstrS_2 : List (Ex × Sh) := [(.exit 0, ⟨[.one (.o (.i .i64))], [(false, [.o (.sl true 4)])]⟩)]
noncomputable def RwmarkInstrS_2 : KC xwmarkInstrS_2 (hwmarkInstrS_2.K → hwmarkInstrS_2.K) := fun k0 nx v1 v2 v3 v4 => bif decide (v2 < (v4.length : Int)) then ix v2 v4 (oc (.int .i64) v4 (Int.toNat v2) 0 ((let e1 : List (List C) := md v4 (Int.toNat v2) 0 (.int v1); ix v2 e1 (oc (.int .i64) e1 (Int.toNat v2) 1 ((let e2 : List (List C) := md e1 (Int.toNat v2) 1 (.int (W (v1 + 1))); ix v2 e2 (oc (.int .i64) e2 (Int.toNat v2) 2 ((let e3 : List (List C) := md e2 (Int.toNat v2) 2 (.int (W ((W (v1 + 1)) + 1))); ix v2 e3 (oc (.int .i64) e3 (Int.toNat v2) 3 ((let e4 : List (List C) := md e3 (Int.toNat v2) 3 (.int (W ((W ((W (v1 + 1)) + 1)) + 1))); nx (W ((W ((W ((W (v1 + 1)) + 1)) + 1)) + 1)) (W (v2 + 1)) v3 e4)))))))))))) else k0 v1 v3 v4
noncomputable def LwmarkInstrS_2 : Lp := ⟨2, [0, 1, 5], [1], 1, 41, hwmarkInstrS_2, xwmarkInstrS_2, RwmarkInstrS_2⟩
noncomputable def QwmarkInstrS : Fx := ⟨Go.Proofs.Tryz.f66, [.io, .ro], false, mkEnv tys_k1 [] [], fun _ => .stop, [LwmarkInstrS_2]⟩
noncomputable def FwmarkInstrS : List S → Option Res := veil QwmarkInstrS.run
noncomputable def SwmarkInstrS : Spec := ⟨[.io, .ro], false, FwmarkInstrS⟩
theorem mwmarkInstrS (x1 : Option Bool) (x2 : List (List C)) (x3 : Int) : FwmarkInstrS [.one (.sl true x1 4 x2), .one (.int x3)] = iterC (RwmarkInstrS_2 (fun y1 y2 y3 => fin false [.one (.sl true x1 4 x2), .one (.int x3)] [.one (.int y1)] [.one (.sl true y2 4 y3), .one .unk])) FUEL x3 0 x1 x2 := Fx.eq (by kernel_rfl)
theorem stwmarkInstrS_2 : LwmarkInstrS_2.Step QwmarkInstrS.E QwmarkInstrS.dr QwmarkInstrS.lp ((findLoop 2 QwmarkInstrS.code).getD .skip) := fun k nx v => by kernel_rfl
theorem okwmarkInstrS : CalleeOk Go.Proofs.Tryz.prog 66 SwmarkInstrS := Fx.ok (F := QwmarkInstrS) follows (envTy_mk tys_k1_eq) (envSpec_of (specsOk_nil)) Go.Proofs.Tryz.func66 (by kernel_rfl) (by kernel_rfl) (by
  rw [show subs QwmarkInstrS.code = [(findLoop 2 QwmarkInstrS.code).getD .skip] by kernel_rfl]
  exact ⟨stepAt_some (by kernel_rfl) stwmarkInstrS_2, trivial⟩) (by kernel_rfl) (by kernel_rfl) rfl
theorem FwmarkInstrS_at (nl : Option Bool) (l : List Instr) (k : Int) (h : l.length ≤ 1048576 ∧ 0 ≤ k ∧ k ≤ 1152921504606846976) : FwmarkInstrS [S.one (C.sl true nl 4 (l.map encInstr)), S.one (C.int k)] = some (S.one (C.int (k + 4 * (l.length : Int))), [S.one (C.sl true nl 4 ((mkInstrS l.length k).map encInstr)), S.one C.unk]) := by
  rw [mwmarkInstrS]
  have key : ∀ k0 : Int → Option Bool → List (List C) → Option Res, iterC (RwmarkInstrS_2 k0) FUEL k 0 nl (l.map encInstr) = k0 (k + 4 * (l.length : Int)) nl ((mkInstrS l.length k).map encInstr) := fun k0 => by
    have := iter_set (h := hwmarkInstrS_2) (fb := RwmarkInstrS_2 k0) l (fun (i : Nat) => (⟨k + 4 * (i : Int), k + 4 * (i : Int) + 1, k + 4 * (i : Int) + 2, k + 4 * (i : Int) + 3⟩ : Instr)) (fun i a f => f (k + 4 * (i : Int)) (i : Int) nl (a.map encInstr)) (fun a => k0 (k + 4 * (l.length : Int)) nl (a.map encInstr)) (by omega) ?_ ?_
    · simpa [mkInstrS] using this
    · intro nx a ha
      simp [RwmarkInstrS_2, ha]
    · intro nx i a hi ha hW
      have w0 : W (k + 4 * (i : Int) + 1) = k + 4 * (i : Int) + 1 := by rw [W_eq (by omega) (by omega)]
      have w1 : W (k + 4 * (i : Int) + 1 + 1) = k + 4 * (i : Int) + 2 := by rw [W_eq (by omega) (by omega)]; omega
      have w2 : W (k + 4 * (i : Int) + 2 + 1) = k + 4 * (i : Int) + 3 := by rw [W_eq (by omega) (by omega)]; omega
      have w3 : W (k + 4 * (i : Int) + 3 + 1) = k + 4 * (i : Int) + 4 := by rw [W_eq (by omega) (by omega)]; omega
      have w : k + 4 * ((i : Int) + 1) = k + 4 * (i : Int) + 4 := by omega
      simp [-List.map_set, RwmarkInstrS_2, hi, hW, w, w0, w1, w2, w3]
  rw [key]
  simp
@[ext] structure Slot where
  a : Int
  v : Int
deriving DecidableEq
abbrev encSlot (c : Slot) : List C := [.int c.a, .int c.v]
@[simp] theorem encSlot_free (l : List Slot) : rowsFree (l.map encSlot) = true := rowsFree_map fun _ _ => rfl
@[simp] theorem encSlot_freeze (l : List Slot) : freezeRows (l.map encSlot) = l.map encSlot := freezeRows_map fun _ _ => rfl
theorem encSlot_plain (x : Slot) : (encSlot x).length = 2 ∧ ∀ c ∈ encSlot x, ∃ v : Value, c = .v v := ⟨rfl, by intro c hc; simp [encSlot] at hc; rcases hc with rfl | rfl <;> exact ⟨_, rfl⟩⟩
@[simp] theorem md_Slot0 {l : List Slot} {i : Nat} (v : Int) (hi : i < l.length) : md (l.map encSlot) i 0 (.int v) = (l.set i ⟨v, l[i].v⟩).map encSlot := md_map hi rfl
@[simp] theorem md_Slot1 {l : List Slot} {i : Nat} (v : Int) (hi : i < l.length) : md (l.map encSlot) i 1 (.int v) = (l.set i ⟨l[i].a, v⟩).map encSlot := md_map hi rfl
/-! weqSlot: loop.example/g00712/laws.eqSlot -/
noncomputable def QweqSlot : Fx := ⟨Go.Proofs.Tryz.f101, [.ro, .ro], false, mkEnv tys_k1 [] [], fun _ => .stop, []⟩
noncomputable def FweqSlot : List S → Option Res := veil QweqSlot.run
noncomputable def SweqSlot : Spec := ⟨[.ro, .ro], false, FweqSlot⟩
theorem mweqSlot (x1 : Int) (x2 : Int) (x3 : Int) (x4 : Int) : FweqSlot [.agg [.int x1, .int x2], .agg [.int x3, .int x4]] = bif x1 != x3 then fr false 2 [.one (.bool false)] else bif x2 != x4 then fr false 2 [.one (.bool false)] else fr false 2 [.one (.bool true)] := Fx.eq (by kernel_rfl)
theorem okweqSlot : CalleeOk Go.Proofs.Tryz.prog 101 SweqSlot := Fx.ok (F := QweqSlot) follows (envTy_mk tys_k1_eq) (envSpec_of (specsOk_nil)) Go.Proofs.Tryz.func101 (by kernel_rfl) (by kernel_rfl) (by rw [show subs QweqSlot.code = [] by kernel_rfl]; trivial) (by kernel_rfl) (by kernel_rfl) rfl
theorem FweqSlot_at (a : Slot) (b : Slot) : FweqSlot [S.agg (encSlot a), S.agg (encSlot b)] = some (S.one (C.bool (decide (a = b))), [S.one C.unk, S.one C.unk]) := by
  have e : decide (a = b) = ((a.a == b.a) && (a.v == b.v)) := by rw [Bool.eq_iff_iff]; simp [Slot.ext_iff, and_assoc]
  rw [mweqSlot, e]
  simp only [bne]
  cases (a.a == b.a) <;> cases (a.v == b.v) <;> simp
/-! weqSlotS: loop.example/g00712/laws.eqSlotS -/
@[reducible] def hweqSlotS_4 : Sh := ⟨[.one (.o (.sl false 2)), .one (.o (.sl false 2)), .one (.o (.i .i64))], []⟩
@[reducible] def xweqSlotS_4 : List (Ex × Sh) := [(.ret, ⟨[.one (.o .b)], []⟩), (.exit 0, ⟨[.one (.o .u)], []⟩)]
noncomputable def RweqSlotS_4 : KC xweqSlotS_4 (hweqSlotS_4.K → hweqSlotS_4.K) := fun k0 k1 nx v1 v2 v3 v4 v5 => bif decide (v5 < (v2.length : Int)) then ix v5 v2 ((v2[Int.toNat v5]?).bind fun w1 => tRo [.int .i64, .int .i64] w1 fun n1 n2 => ix v5 v4 ((v4[Int.toNat v5]?).bind fun w2 => tRo [.int .i64, .int .i64] w2 fun n3 n4 => cV false [.bool] (FweqSlot [.agg [.int n1, .int n2], .agg [.int n3, .int n4]]) fun b1 => bif !b1 then k0 false else nx v1 v2 v3 v4 (W (v5 + 1)))) else k1
noncomputable def LweqSlotS_4 : Lp := ⟨4, [0, 1, 5], [4], 0, 27, hweqSlotS_4, xweqSlotS_4, RweqSlotS_4⟩
noncomputable def QweqSlotS : Fx := ⟨Go.Proofs.Tryz.f88, [.ro, .ro], false, mkEnv tys_k1 [(101, SweqSlot)] [], fun id => bif Nat.beq id 6 then .sq [0, 1, 2, 3, 4, 5, 6, 7, 8, 9] .stop else .stop, [LweqSlotS_4]⟩
noncomputable def FweqSlotS : List S → Option Res := veil QweqSlotS.run
noncomputable def SweqSlotS : Spec := ⟨[.ro, .ro], false, FweqSlotS⟩
theorem mweqSlotS (x1 : Option Bool) (x2 : List (List C)) (x3 : Option Bool) (x4 : List (List C)) : FweqSlotS [.one (.sl false x1 2 x2), .one (.sl false x3 2 x4)] = bif (x2.length : Int) != (x4.length : Int) then fr false 2 [.one (.bool false)] else iterC (RweqSlotS_4 (fun y1 => fr false 2 [.one (.bool y1)]) (fr false 2 [.one (.bool true)])) FUEL x1 x2 x3 x4 0 := Fx.eq (by kernel_rfl)
theorem stweqSlotS_4 : LweqSlotS_4.Step QweqSlotS.E QweqSlotS.dr QweqSlotS.lp ((findLoop 4 QweqSlotS.code).getD .skip) := fun k nx v => by kernel_rfl
theorem okweqSlotS : CalleeOk Go.Proofs.Tryz.prog 88 SweqSlotS := Fx.ok (F := QweqSlotS) follows (envTy_mk tys_k1_eq) (envSpec_of (specsOk_cons okweqSlot specsOk_nil)) Go.Proofs.Tryz.func88 (by kernel_rfl) (by kernel_rfl) (by
  rw [show subs QweqSlotS.code = [(findLoop 4 QweqSlotS.code).getD .skip] by kernel_rfl]
  exact ⟨stepAt_some (by kernel_rfl) stweqSlotS_4, trivial⟩) (by kernel_rfl) (by kernel_rfl) rfl
theorem FweqSlotS_at (nl : Option Bool) (a : List Slot) (nl' : Option Bool) (b : List Slot) (h : a.length < 4611686018427387904) : FweqSlotS [S.one (C.sl false nl 2 (a.map encSlot)), S.one (C.sl false nl' 2 (b.map encSlot))] = some (S.one (C.bool (decide (a = b))), [S.one C.unk, S.one C.unk]) := by
  rw [mweqSlotS]
  by_cases hl : a.length = b.length
  · have e1 : (((a.map encSlot).length : Int) != ((b.map encSlot).length : Int)) = false := by simp [hl]
    rw [e1, cond_false]
    refine (iter_eq (h := hweqSlotS_4) a b (fun i f => f nl (a.map encSlot) nl' (b.map encSlot) (i : Int)) (fr false 2 [.one (.bool true)]) (fr false 2 [.one (.bool false)]) h hl ?_ ?_).trans ?_
    · intro nx; simp [RweqSlotS_4]
    · intro nx i hi hi' hW
      have e' : (a[i] == b[i]) = decide (a[i] = b[i]) := by by_cases e : a[i] = b[i] <;> simp [e]
      simp [RweqSlotS_4, hi, hi', hW, bne, e', FweqSlot_at]
      try (cases decide (a[i] = b[i]) <;> simp)
    · by_cases e : a = b <;> simp [e]
  · have e1 : (((a.map encSlot).length : Int) != ((b.map encSlot).length : Int)) = true := by simp; omega
    have e2 : ¬ a = b := fun e => hl (by rw [e])
    rw [e1]; simp [e2]
def mkSlotS (n : Nat) (k : Int) : List Slot := (List.range n).map fun (i : Nat) => ⟨k + 2 * (i : Int), k + 2 * (i : Int) + 1⟩
@[simp] theorem mkSlotS_len (n : Nat) (k : Int) : (mkSlotS n k).length = n := by simp [mkSlotS]
/-! wmarkSlotS: loop.example/g00712/laws.markSlotS -/
@[reducible] def hwmarkSlotS_2 : Sh := ⟨[.one (.o (.al 0 0 [])), .one (.o (.i .i64)), .one (.o (.i .i64))], [(false, [.o (.sl true 2)])]⟩
@[reducible] def xwmarkSlotS_2 : List (Ex × Sh) := [(.exit 0, ⟨[.one (.o (.i .i64))], [(false, [.o (.sl true 2)])]⟩)]
noncomputable def RwmarkSlotS_2 : KC xwmarkSlotS_2 (hwmarkSlotS_2.K → hwmarkSlotS_2.K) := fun k0 nx v1 v2 v3 v4 => bif decide (v2 < (v4.length : Int)) then ix v2 v4 (oc (.int .i64) v4 (Int.toNat v2) 0 ((let e1 : List (List C) := md v4 (Int.toNat v2) 0 (.int v1); ix v2 e1 (oc (.int .i64) e1 (Int.toNat v2) 1 ((let e2 : List (List C) := md e1 (Int.toNat v2) 1 (.int (W (v1 + 1))); nx (W ((W (v1 + 1)) + 1)) (W (v2 + 1)) v3 e2)))))) else k0 v1 v3 v4
noncomputable def LwmarkSlotS_2 : Lp := ⟨2, [0, 1, 5], [1], 1, 27, hwmarkSlotS_2, xwmarkSlotS_2, RwmarkSlotS_2⟩
noncomputable def QwmarkSlotS : Fx := ⟨Go.Proofs.Tryz.f68, [.io, .ro], false, mkEnv tys_k1 [] [], fun _ => .stop, [LwmarkSlotS_2]⟩
noncomputable def FwmarkSlotS : List S → Option Res := veil QwmarkSlotS.run
noncomputable def SwmarkSlotS : Spec := ⟨[.io, .ro], false, FwmarkSlotS⟩
theorem mwmarkSlotS (x1 : Option Bool) (x2 : List (List C)) (x3 : Int) : FwmarkSlotS [.one (.sl true x1 2 x2), .one (.int x3)] = iterC (RwmarkSlotS_2 (fun y1 y2 y3 => fin false [.one (.sl true x1 2 x2), .one (.int x3)] [.one (.int y1)] [.one (.sl true y2 2 y3), .one .unk])) FUEL x3 0 x1 x2 := Fx.eq (by kernel_rfl)
theorem stwmarkSlotS_2 : LwmarkSlotS_2.Step QwmarkSlotS.E QwmarkSlotS.dr QwmarkSlotS.lp ((findLoop 2 QwmarkSlotS.code).getD .skip) := fun k nx v => by kernel_rfl
theorem okwmarkSlotS : CalleeOk Go.Proofs.Tryz.prog 68 SwmarkSlotS := Fx.ok (F := QwmarkSlotS) follows (envTy_mk tys_k1_eq) (envSpec_of (specsOk_nil)) Go.Proofs.Tryz.func68 (by kernel_rfl) (by kernel_rfl) (by
  rw [show subs QwmarkSlotS.code = [(findLoop 2 QwmarkSlotS.code).getD .skip] by kernel_rfl]
  exact ⟨stepAt_some (by kernel_rfl) stwmarkSlotS_2, trivial⟩) (by kernel_rfl) (by kernel_rfl) rfl
theorem FwmarkSlotS_at (nl : Option Bool) (l : List Slot) (k : Int) (h : l.length ≤ 1048576 ∧ 0 ≤ k ∧ k ≤ 1152921504606846976) : FwmarkSlotS [S.one (C.sl true nl 2 (l.map encSlot)), S.one (C.int k)] = some (S.one (C.int (k + 2 * (l.length : Int))), [S.one (C.sl true nl 2 ((mkSlotS l.length k).map encSlot)), S.one C.unk]) := by
  rw [mwmarkSlotS]
  have key : ∀ k0 : Int → Option Bool → List (List C) → Option Res, iterC (RwmarkSlotS_2 k0) FUEL k 0 nl (l.map encSlot) = k0 (k + 2 * (l.length : Int)) nl ((mkSlotS l.length k).map encSlot) := fun k0 => by
    have := iter_set (h := hwmarkSlotS_2) (fb := RwmarkSlotS_2 k0) l (fun (i : Nat) => (⟨k + 2 * (i : Int), k + 2 * (i : Int) + 1⟩ : Slot)) (fun i a f => f (k + 2 * (i : Int)) (i : Int) nl (a.map encSlot)) (fun a => k0 (k + 2 * (l.length : Int)) nl (a.map encSlot)) (by omega) ?_ ?_
    · simpa [mkSlotS] using this
    · intro nx a ha
      simp [RwmarkSlotS_2, ha]
    · intro nx i a hi ha hW
      have w0 : W (k + 2 * (i : Int) + 1) = k + 2 * (i : Int) + 1 := by rw [W_eq (by omega) (by omega)]
      have w1 : W (k + 2 * (i : Int) + 1 + 1) = k + 2 * (i : Int) + 2 := by rw [W_eq (by omega) (by omega)]; omega
      have w : k + 2 * ((i : Int) + 1) = k + 2 * (i : Int) + 2 := by omega
      simp [-List.map_set, RwmarkSlotS_2, hi, hW, w, w0, w1]
  rw [key]
  simp
/-! wheldSlotS: loop.example/g00712/laws.heldSlotS -/
@[reducible] def hwheldSlotS_2 : Sh := ⟨[.one (.o (.sl false 2)), .one (.o (.i .i64)), .one (.o (.i .i64))], []⟩
@[reducible] def xwheldSlotS_2 : List (Ex × Sh) := [(.ret, ⟨[.one (.o (.i .i64)), .one (.o (.i .i64))], []⟩), (.exit 0, ⟨[.one (.o (.i .i64)), .one (.o .u)], []⟩)]
noncomputable def RwheldSlotS_2 : KC xwheldSlotS_2 (hwheldSlotS_2.K → hwheldSlotS_2.K) := fun k0 k1 nx v1 v2 v3 v4 => bif decide (v4 < (v2.length : Int)) then ix v4 v2 ((v2[Int.toNat v4]?).bind fun w1 => tRo [.int .i64] w1 fun n1 => bif n1 != v3 then k0 v3 (-1) else ix v4 v2 ((v2[Int.toNat v4]?).bind fun w2 => tRo [.int .i64] (List.drop 1 w2) fun n2 => bif n2 != W (v3 + 1) then k0 (W (v3 + 1)) (-1) else nx v1 v2 (W ((W (v3 + 1)) + 1)) (W (v4 + 1)))) else k1 v3
noncomputable def LwheldSlotS_2 : Lp := ⟨2, [0, 1, 5], [1, 4], 0, 31, hwheldSlotS_2, xwheldSlotS_2, RwheldSlotS_2⟩
noncomputable def QwheldSlotS : Fx := ⟨Go.Proofs.Tryz.f70, [.ro, .ro], false, mkEnv tys_k1 [] [], fun _ => .stop, [LwheldSlotS_2]⟩
noncomputable def FwheldSlotS : List S → Option Res := veil QwheldSlotS.run
noncomputable def SwheldSlotS : Spec := ⟨[.ro, .ro], false, FwheldSlotS⟩
theorem mwheldSlotS (x1 : Option Bool) (x2 : List (List C)) (x3 : Int) : FwheldSlotS [.one (.sl false x1 2 x2), .one (.int x3)] = iterC (RwheldSlotS_2 (fun y1 y2 => fr false 2 [.one (.int y2)]) (fun y3 => fr false 2 [.one (.int y3)])) FUEL x1 x2 x3 0 := Fx.eq (by kernel_rfl)
theorem stwheldSlotS_2 : LwheldSlotS_2.Step QwheldSlotS.E QwheldSlotS.dr QwheldSlotS.lp ((findLoop 2 QwheldSlotS.code).getD .skip) := fun k nx v => by kernel_rfl
theorem okwheldSlotS : CalleeOk Go.Proofs.Tryz.prog 70 SwheldSlotS := Fx.ok (F := QwheldSlotS) follows (envTy_mk tys_k1_eq) (envSpec_of (specsOk_nil)) Go.Proofs.Tryz.func70 (by kernel_rfl) (by kernel_rfl) (by
  rw [show subs QwheldSlotS.code = [(findLoop 2 QwheldSlotS.code).getD .skip] by kernel_rfl]
  exact ⟨stepAt_some (by kernel_rfl) stwheldSlotS_2, trivial⟩) (by kernel_rfl) (by kernel_rfl) rfl
theorem FwheldSlotS_at (nl : Option Bool) (n : Nat) (k : Int) (h : n ≤ 1048576 ∧ 0 ≤ k ∧ k ≤ 1152921504606846976) : FwheldSlotS [S.one (C.sl false nl 2 ((mkSlotS n k).map encSlot)), S.one (C.int k)] = some (S.one (C.int (k + 2 * (n : Int))), [S.one C.unk, S.one C.unk]) := by
  rw [mwheldSlotS]
  have := iter_all (h := hwheldSlotS_2) (fb := RwheldSlotS_2 (fun y1 y2 => fr false 2 [.one (.int y2)]) (fun y3 => fr false 2 [.one (.int y3)])) (mkSlotS n k) (fun i f => f nl ((mkSlotS n k).map encSlot) (k + 2 * (i : Int)) (i : Int)) (fun _ => true) (fr false 2 [.one (.int (k + 2 * (n : Int)))]) none (by simp; omega) ?_ ?_
  · simpa using this
  · intro nx; simp [RwheldSlotS_2]
  · intro nx i hi hW
    have hi' : i < n := by simpa using hi
    have w0 : W (k + 2 * (i : Int) + 1) = k + 2 * (i : Int) + 1 := by rw [W_eq (by omega) (by omega)]
    have w1 : W (k + 2 * (i : Int) + 1 + 1) = k + 2 * (i : Int) + 2 := by rw [W_eq (by omega) (by omega)]; omega
    have w : k + 2 * ((i : Int) + 1) = k + 2 * (i : Int) + 2 := by omega
    simp [RwheldSlotS_2, mkSlotS, hi', hW, w, w0, w1]
@[ext] structure Move where
  t : Int
  drain : Bool
deriving DecidableEq
abbrev encMove (c : Move) : List C := [.int c.t, .bool c.drain]
@[simp] theorem encMove_free (l : List Move) : rowsFree (l.map encMove) = true := rowsFree_map fun _ _ => rfl
@[simp] theorem encMove_freeze (l : List Move) : freezeRows (l.map encMove) = l.map encMove := freezeRows_map fun _ _ => rfl
theorem encMove_plain (x : Move) : (encMove x).length = 2 ∧ ∀ c ∈ encMove x, ∃ v : Value, c = .v v := ⟨rfl, by intro c hc; simp [encMove] at hc; rcases hc with rfl | rfl <;> exact ⟨_, rfl⟩⟩
@[simp] theorem md_Move0 {l : List Move} {i : Nat} (v : Int) (hi : i < l.length) : md (l.map encMove) i 0 (.int v) = (l.set i ⟨v, l[i].drain⟩).map encMove := md_map hi rfl
@[simp] theorem md_Move1 {l : List Move} {i : Nat} (v : Bool) (hi : i < l.length) : md (l.map encMove) i 1 (.bool v) = (l.set i ⟨l[i].t, v⟩).map encMove := md_map hi rfl
/-! wtoMove: loop.example/g00712/laws.toMove -/
noncomputable def QwtoMove : Fx := ⟨Go.Proofs.Tryz.f10, [.ro], false, mkEnv tys_k1 [] [], fun _ => .stop, []⟩
noncomputable def FwtoMove : List S → Option Res := veil QwtoMove.run
noncomputable def SwtoMove : Spec := ⟨[.ro], false, FwtoMove⟩
theorem mwtoMove (x1 : Int) (x2 : Bool) : FwtoMove [.agg [.int x1, .bool x2]] = fr false 1 [.agg [.int x1, .bool x2]] := Fx.eq (by kernel_rfl)
theorem okwtoMove : CalleeOk Go.Proofs.Tryz.prog 10 SwtoMove := Fx.ok (F := QwtoMove) follows (envTy_mk tys_k1_eq) (envSpec_of (specsOk_nil)) Go.Proofs.Tryz.func10 (by kernel_rfl) (by kernel_rfl) (by rw [show subs QwtoMove.code = [] by kernel_rfl]; trivial) (by kernel_rfl) (by kernel_rfl) rfl
theorem FwtoMove_at (c : Move) : FwtoMove [S.agg (encMove c)] = some (S.agg (encMove c), [S.one C.unk]) := by
  simp [mwtoMove, encMove, C.weak]
def mkMoveS (n : Nat) (k : Int) : List Move := (List.range n).map fun (i : Nat) => ⟨k + 2 * (i : Int), (Int.tmod (k + 2 * (i : Int) + 1) 3 == 0)⟩
@[simp] theorem mkMoveS_len (n : Nat) (k : Int) : (mkMoveS n k).length = n := by simp [mkMoveS]
end Go.Proofs.Gh.Gm
set_option linter.unusedVariables false
set_option linter.unusedSimpArgs false
set_option maxRecDepth 100000
set_option maxHeartbeats 2000000
namespace Go.Proofs.Gh.Gm
def tys_k2 : List (Nat × TI) := [(3, ⟨false, 8, [.int .i64], [.int 0], .scalar, false⟩),
  (4, ⟨false, 1, [.bool], [.bool false], .scalar, false⟩),
  (22, ⟨false, 24, [.sl 1], [.sl true (some true) 1 []], .slice 80, false⟩),
  (24, ⟨true, 32, [.int .i64, .sl 1], [.int 0, .sl true (some true) 1 []], .struct [(0, 1, false), (1, 1, false)], false⟩),
  (41, ⟨false, 24, [.sl 1], [.sl true (some true) 1 []], .slice 76, false⟩),
  (43, ⟨true, 32, [.int .i64, .sl 1], [.int 0, .sl true (some true) 1 []], .struct [(0, 1, false), (1, 1, false)], false⟩),
  (76, ⟨false, 24, [.sl 4], [.sl true (some true) 4 []], .slice 92, false⟩),
  (80, ⟨false, 24, [.sl 4], [.sl true (some true) 4 []], .slice 112, false⟩)]
theorem tys_k2_eq : tys_k2.map (fun x => tiOf Go.Proofs.Tryz.prog x.1 x.2.cks) = tys_k2.map fun x => some x.2 := by kernel_rfl
abbrev encCode (own : Bool) (c : List Instr) : List C := [.sl own none 4 (c.map encInstr)]
@[simp] theorem encCode_free (l : List (List Instr)) : rowsFree (l.map (encCode true)) = true := rowsFree_map fun _ _ => by simp
@[simp] theorem encCode_freeze (l : List (List Instr)) : freezeRows (l.map (encCode true)) = l.map (encCode false) := freezeRows_map fun _ _ => by simp [freezeRow, C.freeze]
@[simp] theorem md_Code {l : List (List Instr)} {i : Nat} (v : List Instr) (hi : i < l.length) : md (l.map (encCode true)) i 0 (.sl true none 4 (v.map encInstr)) = (l.set i v).map (encCode true) := md_map hi rfl
structure Prog where
  cells : Int
  codes : List (List Instr)
deriving DecidableEq
abbrev encProg (own : Bool) (p : Prog) : List C := [.int p.cells, .sl own none 1 (p.codes.map (encCode own))]
def sumL {α : Type} (l : List (List α)) : Nat := (l.map List.length).sum
@[simp] theorem sumL_nil {α : Type} : sumL ([] : List (List α)) = 0 := rfl
@[simp] theorem sumL_cons {α : Type} (c : List α) (l : List (List α)) : sumL (c :: l) = c.length + sumL l := by simp [sumL]
def bndL {α : Type} (l : List (List α)) : Prop := l.length ≤ 4611686018427387903 ∧ ∀ c ∈ l, c.length ≤ 4611686018427387903
def bndZ {α : Type} (l : List (List α)) : Prop := l.length ≤ 9223372036854775807 ∧ ∀ c ∈ l, c.length ≤ 9223372036854775807
theorem sumL_mem {α : Type} {l : List (List α)} {c : List α} (h : c ∈ l) : c.length ≤ sumL l := by
  induction l with
  | nil => cases h
  | cons a l ih => rcases List.mem_cons.1 h with rfl | h <;> simp; have := ih h; omega
def take0 (s : Nat) (n : Int) : Int := if (s : Int) ≤ n then n - s else -1
/-! wszInstrSS: loop.example/g00712/laws.szInstrSS -/
@[reducible] def hwszInstrSS_5 : Sh := ⟨[.one (.o (.sl false 1)), .one (.o (.i .i64)), .one (.o (.i .i64))], []⟩
@[reducible] def xwszInstrSS_5 : List (Ex × Sh) := [(.ret, ⟨[.one (.o (.i .i64)), .one (.o (.i .i64))], []⟩), (.exit 0, ⟨[.one (.o (.i .i64)), .one (.o .u)], []⟩)]
noncomputable def RwszInstrSS_5 : KC xwszInstrSS_5 (hwszInstrSS_5.K → hwszInstrSS_5.K) := fun k0 k1 nx v1 v2 v3 v4 => bif decide (v4 < (v2.length : Int)) then ix v4 v2 ((v2[Int.toNat v4]?).bind fun w1 => tRo [.sl 4] w1 fun _ l1 => cV false [.int .i64] (FwszInstrS [.one (.sl false none 4 l1), .one (.int v3)]) fun n1 => bif decide (n1 < 0) then k0 n1 (-1) else nx v1 v2 n1 (W (v4 + 1))) else k1 v3
noncomputable def LwszInstrSS_5 : Lp := ⟨5, [0, 1, 5], [1, 4], 0, 27, hwszInstrSS_5, xwszInstrSS_5, RwszInstrSS_5⟩
noncomputable def QwszInstrSS : Fx := ⟨Go.Proofs.Tryz.f19, [.ro, .ro], false, mkEnv tys_k2 [(45, SwszInstrS)] [], fun _ => .stop, [LwszInstrSS_5]⟩
noncomputable def FwszInstrSS : List S → Option Res := veil QwszInstrSS.run
noncomputable def SwszInstrSS : Spec := ⟨[.ro, .ro], false, FwszInstrSS⟩
theorem mwszInstrSS (x1 : Option Bool) (x2 : List (List C)) (x3 : Int) : FwszInstrSS [.one (.sl false x1 1 x2), .one (.int x3)] = bif decide (W (x3 - (x2.length : Int)) < 0) then fr false 2 [.one (.int (-1))] else iterC (RwszInstrSS_5 (fun y1 y2 => fr false 2 [.one (.int y2)]) (fun y3 => fr false 2 [.one (.int y3)])) FUEL x1 x2 (W (x3 - (x2.length : Int))) 0 := Fx.eq (by kernel_rfl)
theorem stwszInstrSS_5 : LwszInstrSS_5.Step QwszInstrSS.E QwszInstrSS.dr QwszInstrSS.lp ((findLoop 5 QwszInstrSS.code).getD .skip) := fun k nx v => by kernel_rfl
theorem okwszInstrSS : CalleeOk Go.Proofs.Tryz.prog 19 SwszInstrSS := Fx.ok (F := QwszInstrSS) follows (envTy_mk tys_k2_eq) (envSpec_of (specsOk_cons okwszInstrS specsOk_nil)) Go.Proofs.Tryz.func19 (by kernel_rfl) (by kernel_rfl) (by
  rw [show subs QwszInstrSS.code = [(findLoop 5 QwszInstrSS.code).getD .skip] by kernel_rfl]
  exact ⟨stepAt_some (by kernel_rfl) stwszInstrSS_5, trivial⟩) (by kernel_rfl) (by kernel_rfl) rfl
theorem FwszInstrSS_at (nl : Option Bool) (l : List (List Instr)) (n : Int) (h : bndZ l ∧ 0 ≤ n ∧ n ≤ 1048576) : FwszInstrSS [S.one (C.sl false nl 1 (l.map (encCode false))), S.one (C.int n)] = some (S.one (C.int (take0 (l.length + sumL l) n)), [S.one C.unk, S.one C.unk]) := by
  obtain ⟨⟨h1, h2⟩, h3, h4⟩ := h
  rw [mwszInstrSS, List.length_map, W_eq (by omega) (by omega)]
  by_cases hn : (l.length : Int) ≤ n
  · rw [decide_eq_false (by omega), cond_false]
    refine (iter_rec (h := hwszInstrSS_5) l (fun i a f => f nl (l.map (encCode false)) a (i : Int)) (fun a r => fr false 2 [.one (.int (take0 (sumL r) a))]) (fun _ a => 0 ≤ a ∧ a ≤ 1048576) (by omega) ?_ ?_ (n - l.length) ⟨by omega, by omega⟩).trans ?_
    · intro nx a ha; simp [RwszInstrSS_5, take0, ha.1]
    · intro nx i rest a hi ha hW hd
      have hb := h2 _ (List.getElem_mem hi)
      have hf := FwszInstrS_at none l[i] a ⟨by omega, ha.1, ha.2⟩
      by_cases hc : (l[i].length : Int) ≤ a
      · have e : ¬ a - (l[i].length : Int) < 0 := by omega
        refine .inl ⟨a - l[i].length, by omega, by simp [RwszInstrSS_5, hi, hW, hf, hc, e], ?_⟩
        simp only [take0, sumL_cons, Int.natCast_add]
        by_cases hs : (sumL rest : Int) ≤ a - l[i].length
        · rw [if_pos (by omega), if_pos hs, show a - ((l[i].length : Int) + sumL rest) = a - l[i].length - sumL rest by omega]
        · rw [if_neg (by omega), if_neg hs]
      · refine .inr ?_
        have e : take0 (l[i].length + sumL rest) a = -1 := by simp only [take0, Int.natCast_add]; rw [if_neg (by omega)]
        simp [RwszInstrSS_5, hi, hW, hf, hc, e]
    · have e : take0 (sumL l) (n - l.length) = take0 (l.length + sumL l) n := by
        simp only [take0, Int.natCast_add]
        by_cases hs : (sumL l : Int) ≤ n - l.length
        · rw [if_pos hs, if_pos (by omega)]; omega
        · rw [if_neg hs, if_neg (by omega)]
      simp [e]
  · rw [decide_eq_true (by omega)]
    have e : take0 (l.length + sumL l) n = -1 := by simp only [take0, Int.natCast_add]; rw [if_neg (by omega)]
    simp [e]
/-! wszProg: loop.example/g00712/laws.szProg -/
noncomputable def QwszProg : Fx := ⟨Go.Proofs.Tryz.f5, [.ro, .ro], false, mkEnv tys_k2 [(19, SwszInstrSS)] [], fun _ => .stop, []⟩
noncomputable def FwszProg : List S → Option Res := veil QwszProg.run
noncomputable def SwszProg : Spec := ⟨[.ro, .ro], false, FwszProg⟩
theorem mwszProg (x1 : Int) (x2 : List (List C)) (x3 : Int) : FwszProg [.agg [.int x1, .sl false none 1 x2], .one (.int x3)] = cV false [.int .i64] (FwszInstrSS [.one (.sl false none 1 x2), .one (.int x3)]) fun n1 => bif decide (n1 < 0) then fr false 2 [.one (.int (-1))] else fr false 2 [.one (.int n1)] := Fx.eq (by kernel_rfl)
theorem okwszProg : CalleeOk Go.Proofs.Tryz.prog 5 SwszProg := Fx.ok (F := QwszProg) follows (envTy_mk tys_k2_eq) (envSpec_of (specsOk_cons okwszInstrSS specsOk_nil)) Go.Proofs.Tryz.func5 (by kernel_rfl) (by kernel_rfl) (by rw [show subs QwszProg.code = [] by kernel_rfl]; trivial) (by kernel_rfl) (by kernel_rfl) rfl
theorem FwszProg_at (p : Prog) (n : Int) (h : bndZ p.codes ∧ 0 ≤ n ∧ n ≤ 1048576) : FwszProg [S.agg (encProg false p), S.one (C.int n)] = some (S.one (C.int (take0 (p.codes.length + sumL p.codes) n)), [S.one C.unk, S.one C.unk]) := by
  rw [mwszProg]
  simp only [FwszInstrSS_at _ _ _ h, cV_some, tOne, tRes, cells?_one, Option.bind_some, List.length_cons, List.length_nil, List.head?_cons, asInt_int, if_true, id]
  by_cases e : take0 (p.codes.length + sumL p.codes) n < 0
  · have : take0 (p.codes.length + sumL p.codes) n = -1 := by unfold take0 at e ⊢; split at e <;> split <;> omega
    simp [this]
  · simp [e]
/-! wtoInstrSS: loop.example/g00712/laws.toInstrSS -/
@[reducible] def hwtoInstrSS_3 : Sh := ⟨[.one (.o (.sl false 1)), .one (.o (.al 2 0 [])), .one (.o (.i .i64))], [(true, [.o .u]), (true, [.o .u]), (true, [.o (.sl true 1)])]⟩
@[reducible] def xwtoInstrSS_3 : List (Ex × Sh) := [(.exit 0, ⟨[.one (.o (.al 2 0 []))], [(true, [.o .u]), (true, [.o .u]), (true, [.o (.sl true 1)])]⟩)]
noncomputable def RwtoInstrSS_3 : KC xwtoInstrSS_3 (hwtoInstrSS_3.K → hwtoInstrSS_3.K) := fun k0 nx v1 v2 v3 v4 v5 => bif decide (v3 < (v2.length : Int)) then ix v3 v2 ((v2[Int.toNat v3]?).bind fun w1 => tRo [.sl 4] w1 fun _ l1 => cV false [.sl 4] (FwtoInstrS [.one (.sl false none 4 l1)]) fun o1 l2 => ix v3 v5 ((v5[Int.toNat v3]?).bind fun w2 => (w2[0]?).bind fun c1 => (let e1 : List (List C) := md v5 (Int.toNat v3) 0 (.sl true none 4 l2); nx v1 v2 (W (v3 + 1)) v4 e1))) else k0 v4 v5
noncomputable def LwtoInstrSS_3 : Lp := ⟨3, [0, 3, 4], [3], 2, 23, hwtoInstrSS_3, xwtoInstrSS_3, RwtoInstrSS_3⟩
noncomputable def QwtoInstrSS : Fx := ⟨Go.Proofs.Tryz.f25, [.ro], false, mkEnv tys_k2 [(54, SwtoInstrS)] [], fun _ => .stop, [LwtoInstrSS_3]⟩
noncomputable def FwtoInstrSS : List S → Option Res := veil QwtoInstrSS.run
noncomputable def SwtoInstrSS : Spec := ⟨[.ro], false, FwtoInstrSS⟩
theorem mwtoInstrSS (x1 : Option Bool) (x2 : List (List C)) : FwtoInstrSS [.one (.sl false x1 1 x2)] = if 0 ≤ (x2.length : Int) ∧ (x2.length : Int) ≤ (x2.length : Int) ∧ (x2.length : Int) * 24 ≤ (LIM : Int) ∧ 0 < 1 then iterC (RwtoInstrSS_3 (fun y1 y2 => fr false 1 [.one (.sl true y1 1 y2)])) FUEL x1 x2 0 (some false) (List.replicate (Int.toNat (x2.length : Int)) [.sl true none 4 []]) else none := Fx.eq (by kernel_rfl)
theorem stwtoInstrSS_3 : LwtoInstrSS_3.Step QwtoInstrSS.E QwtoInstrSS.dr QwtoInstrSS.lp ((findLoop 3 QwtoInstrSS.code).getD .skip) := fun k nx v => by kernel_rfl
theorem okwtoInstrSS : CalleeOk Go.Proofs.Tryz.prog 25 SwtoInstrSS := Fx.ok (F := QwtoInstrSS) follows (envTy_mk tys_k2_eq) (envSpec_of (specsOk_cons okwtoInstrS specsOk_nil)) Go.Proofs.Tryz.func25 (by kernel_rfl) (by kernel_rfl) (by
  rw [show subs QwtoInstrSS.code = [(findLoop 3 QwtoInstrSS.code).getD .skip] by kernel_rfl]
  exact ⟨stepAt_some (by kernel_rfl) stwtoInstrSS_3, trivial⟩) (by kernel_rfl) (by kernel_rfl) rfl
theorem FwtoInstrSS_at (nl : Option Bool) (l : List (List Instr)) (h : l.length ≤ 1048576 ∧ ∀ c ∈ l, c.length ≤ 1048576) : FwtoInstrSS [S.one (C.sl false nl 1 (l.map (encCode false)))] = some (S.one (C.sl true (some false) 1 (l.map (encCode true))), [S.one C.unk]) := by
  obtain ⟨h1, h2⟩ := h
  have hz : List.replicate l.length [C.sl true none 4 []] = (List.replicate l.length ([] : List Instr)).map (encCode true) := by simp
  rw [mwtoInstrSS, if_pos (by simp [LIM]; omega), List.length_map, Int.toNat_natCast, hz]
  have key : ∀ k0 : Option Bool → List (List C) → Option Res, iterC (RwtoInstrSS_3 k0) FUEL nl (l.map (encCode false)) 0 (some false) ((List.replicate l.length ([] : List Instr)).map (encCode true)) = k0 (some false) (l.map (encCode true)) := fun k0 => by
    refine (iter_set (h := hwtoInstrSS_3) (List.replicate l.length ([] : List Instr)) (fun i => l.getD i []) (fun i a f => f nl (l.map (encCode false)) (i : Int) (some false) (a.map (encCode true))) (fun a => k0 (some false) (a.map (encCode true))) (by simp; omega) ?_ ?_).trans ?_
    · intro nx a ha
      simp [RwtoInstrSS_3]
    · intro nx i a hi ha hW
      have hi' : i < l.length := by simpa [ha] using hi
      simp [-List.map_set, RwtoInstrSS_3, FwtoInstrS_at _ _ (h2 _ (List.getElem_mem hi')), hi', hi, hW, List.getD, List.getElem?_eq_getElem hi']
    · congr 2
      apply List.ext_getElem
      · simp
      · intro k h1 h2
        simp only [List.length_map, List.length_range, List.length_replicate] at h1
        simp [List.getD, h2]
  rw [key]
  simp
/-! wtoProg: loop.example/g00712/laws.toProg -/
noncomputable def QwtoProg : Fx := ⟨Go.Proofs.Tryz.f8, [.ro], false, mkEnv tys_k2 [(25, SwtoInstrSS)] [], fun _ => .stop, []⟩
noncomputable def FwtoProg : List S → Option Res := veil QwtoProg.run
noncomputable def SwtoProg : Spec := ⟨[.ro], false, FwtoProg⟩
theorem mwtoProg (x1 : Int) (x2 : List (List C)) : FwtoProg [.agg [.int x1, .sl false none 1 x2]] = cV false [.sl 1] (FwtoInstrSS [.one (.sl false none 1 x2)]) fun o1 l1 => fr false 1 [.agg [.int x1, .sl true none 1 l1]] := Fx.eq (by kernel_rfl)
theorem okwtoProg : CalleeOk Go.Proofs.Tryz.prog 8 SwtoProg := Fx.ok (F := QwtoProg) follows (envTy_mk tys_k2_eq) (envSpec_of (specsOk_cons okwtoInstrSS specsOk_nil)) Go.Proofs.Tryz.func8 (by kernel_rfl) (by kernel_rfl) (by rw [show subs QwtoProg.code = [] by kernel_rfl]; trivial) (by kernel_rfl) (by kernel_rfl) rfl
theorem FwtoProg_at (p : Prog) (h : p.codes.length ≤ 1048576 ∧ ∀ c ∈ p.codes, c.length ≤ 1048576) : FwtoProg [S.agg (encProg false p)] = some (S.agg (encProg true p), [S.one C.unk]) := by
  simp [mwtoProg, FwtoInstrSS_at _ _ h]
/-! weqInstrSS: loop.example/g00712/laws.eqInstrSS -/
@[reducible] def hweqInstrSS_4 : Sh := ⟨[.one (.o (.sl false 1)), .one (.o (.sl false 1)), .one (.o (.i .i64))], []⟩
@[reducible] def xweqInstrSS_4 : List (Ex × Sh) := [(.ret, ⟨[.one (.o .b)], []⟩), (.exit 0, ⟨[.one (.o .u)], []⟩)]
noncomputable def RweqInstrSS_4 : KC xweqInstrSS_4 (hweqInstrSS_4.K → hweqInstrSS_4.K) := fun k0 k1 nx v1 v2 v3 v4 v5 => bif decide (v5 < (v2.length : Int)) then ix v5 v2 ((v2[Int.toNat v5]?).bind fun w1 => tRo [.sl 4] w1 fun _ l1 => ix v5 v4 ((v4[Int.toNat v5]?).bind fun w2 => tRo [.sl 4] w2 fun _ l2 => cV false [.bool] (FweqInstrS [.one (.sl false none 4 l1), .one (.sl false none 4 l2)]) fun b1 => bif !b1 then k0 false else nx v1 v2 v3 v4 (W (v5 + 1)))) else k1
noncomputable def LweqInstrSS_4 : Lp := ⟨4, [0, 1, 5], [4], 0, 27, hweqInstrSS_4, xweqInstrSS_4, RweqInstrSS_4⟩
noncomputable def QweqInstrSS : Fx := ⟨Go.Proofs.Tryz.f33, [.ro, .ro], false, mkEnv tys_k2 [(65, SweqInstrS)] [], fun id => bif Nat.beq id 6 then .sq [0, 1, 2, 3, 4, 5, 6, 7, 8, 9] .stop else .stop, [LweqInstrSS_4]⟩
noncomputable def FweqInstrSS : List S → Option Res := veil QweqInstrSS.run
noncomputable def SweqInstrSS : Spec := ⟨[.ro, .ro], false, FweqInstrSS⟩
theorem mweqInstrSS (x1 : Option Bool) (x2 : List (List C)) (x3 : Option Bool) (x4 : List (List C)) : FweqInstrSS [.one (.sl false x1 1 x2), .one (.sl false x3 1 x4)] = bif (x2.length : Int) != (x4.length : Int) then fr false 2 [.one (.bool false)] else iterC (RweqInstrSS_4 (fun y1 => fr false 2 [.one (.bool y1)]) (fr false 2 [.one (.bool true)])) FUEL x1 x2 x3 x4 0 := Fx.eq (by kernel_rfl)
theorem stweqInstrSS_4 : LweqInstrSS_4.Step QweqInstrSS.E QweqInstrSS.dr QweqInstrSS.lp ((findLoop 4 QweqInstrSS.code).getD .skip) := fun k nx v => by kernel_rfl
theorem okweqInstrSS : CalleeOk Go.Proofs.Tryz.prog 33 SweqInstrSS := Fx.ok (F := QweqInstrSS) follows (envTy_mk tys_k2_eq) (envSpec_of (specsOk_cons okweqInstrS specsOk_nil)) Go.Proofs.Tryz.func33 (by kernel_rfl) (by kernel_rfl) (by
  rw [show subs QweqInstrSS.code = [(findLoop 4 QweqInstrSS.code).getD .skip] by kernel_rfl]
  exact ⟨stepAt_some (by kernel_rfl) stweqInstrSS_4, trivial⟩) (by kernel_rfl) (by kernel_rfl) rfl
theorem FweqInstrSS_at (nl : Option Bool) (a : List (List Instr)) (nl' : Option Bool) (b : List (List Instr)) (h : bndL a) : FweqInstrSS [S.one (C.sl false nl 1 (a.map (encCode false))), S.one (C.sl false nl' 1 (b.map (encCode false)))] = some (S.one (C.bool (decide (a = b))), [S.one C.unk, S.one C.unk]) := by
  rw [mweqInstrSS]
  by_cases hl : a.length = b.length
  · have e1 : (((a.map (encCode false)).length : Int) != ((b.map (encCode false)).length : Int)) = false := by simp [hl]
    rw [e1, cond_false]
    refine (iter_eq (h := hweqInstrSS_4) a b (fun i f => f nl (a.map (encCode false)) nl' (b.map (encCode false)) (i : Int)) (fr false 2 [.one (.bool true)]) (fr false 2 [.one (.bool false)]) (by have := h.1; omega) hl ?_ ?_).trans ?_
    · intro nx; simp [RweqInstrSS_4]
    · intro nx i hi hi' hW
      simp [RweqInstrSS_4, hi, hi', hW, FweqInstrS_at _ _ _ _ (Nat.lt_of_le_of_lt (h.2 _ (List.getElem_mem hi)) (by omega))]
      try (cases decide (a[i] = b[i]) <;> simp)
    · by_cases e : a = b <;> simp [e]
  · have e1 : (((a.map (encCode false)).length : Int) != ((b.map (encCode false)).length : Int)) = true := by simp; omega
    have e2 : ¬ a = b := fun e => hl (by rw [e])
    rw [e1]; simp [e2]
/-! weqProg: loop.example/g00712/laws.eqProg -/
noncomputable def QweqProg : Fx := ⟨Go.Proofs.Tryz.f13, [.ro, .ro], false, mkEnv tys_k2 [(33, SweqInstrSS)] [], fun _ => .stop, []⟩
noncomputable def FweqProg : List S → Option Res := veil QweqProg.run
noncomputable def SweqProg : Spec := ⟨[.ro, .ro], false, FweqProg⟩
theorem mweqProg (x1 : Int) (x2 : List (List C)) (x3 : Int) (x4 : List (List C)) : FweqProg [.agg [.int x1, .sl false none 1 x2], .agg [.int x3, .sl false none 1 x4]] = bif x1 != x3 then fr false 2 [.one (.bool false)] else cV false [.bool] (FweqInstrSS [.one (.sl false none 1 x2), .one (.sl false none 1 x4)]) fun b1 => bif !b1 then fr false 2 [.one (.bool false)] else fr false 2 [.one (.bool true)] := Fx.eq (by kernel_rfl)
theorem okweqProg : CalleeOk Go.Proofs.Tryz.prog 13 SweqProg := Fx.ok (F := QweqProg) follows (envTy_mk tys_k2_eq) (envSpec_of (specsOk_cons okweqInstrSS specsOk_nil)) Go.Proofs.Tryz.func13 (by kernel_rfl) (by kernel_rfl) (by rw [show subs QweqProg.code = [] by kernel_rfl]; trivial) (by kernel_rfl) (by kernel_rfl) rfl
theorem FweqProg_at (a : Prog) (b : Prog) (h : bndL a.codes) : FweqProg [S.agg (encProg false a), S.agg (encProg false b)] = some (S.one (C.bool (decide (a = b))), [S.one C.unk, S.one C.unk]) := by
  have e : decide (a = b) = ((a.cells == b.cells) && decide (a.codes = b.codes)) := by rw [Bool.eq_iff_iff]; cases a; cases b; simp
  rw [mweqProg, e]
  simp only [bne, FweqInstrSS_at _ _ _ _ h]
  cases (a.cells == b.cells) <;> cases decide (a.codes = b.codes) <;> simp
def mkCodes : List (List Instr) → Int → List (List Instr)
  | [], _ => []
  | c :: cs, k => mkInstrS c.length k :: mkCodes cs (k + 4 * c.length)
/-! wmarkInstrSS: loop.example/g00712/laws.markInstrSS -/
@[reducible] def hwmarkInstrSS_2 : Sh := ⟨[.one (.o (.al 0 0 [])), .one (.o (.i .i64)), .one (.o (.i .i64))], [(false, [.o (.sl true 1)])]⟩
@[reducible] def xwmarkInstrSS_2 : List (Ex × Sh) := [(.exit 0, ⟨[.one (.o (.i .i64))], [(false, [.o (.sl true 1)])]⟩)]
noncomputable def RwmarkInstrSS_2 : KC xwmarkInstrSS_2 (hwmarkInstrSS_2.K → hwmarkInstrSS_2.K) := fun k0 nx v1 v2 v3 v4 => bif decide (v2 < (v4.length : Int)) then ix v2 v4 ((v4[Int.toNat v2]?).bind fun w1 => tOwn [.sl 4] w1 ((v4[Int.toNat v2]?).bind fun w2 => (w2[0]?).bind fun c1 => own3 c1 fun o1 m1 l1 => (FwmarkInstrS [.one (.sl true o1 m1 l1), .one (.int v1)]).bind fun r1 => tOuts id [.sl 4] r1.2 fun o2 l2 => ((md v4 (Int.toNat v2) 0 .unk)[Int.toNat v2]?).bind fun w3 => (w3[0]?).bind fun c2 => ((md v4 (Int.toNat v2) 0 .unk)[Int.toNat v2]?).bind fun w4 => (w4[0]?).bind fun c3 => tOne id false [.int .i64] r1.1 fun n1 => nx n1 (W (v2 + 1)) v3 (md (md v4 (Int.toNat v2) 0 .unk) (Int.toNat v2) 0 (.sl true o2 4 l2)))) else k0 v1 v3 v4
noncomputable def LwmarkInstrSS_2 : Lp := ⟨2, [0, 1, 5], [1], 1, 19, hwmarkInstrSS_2, xwmarkInstrSS_2, RwmarkInstrSS_2⟩
noncomputable def QwmarkInstrSS : Fx := ⟨Go.Proofs.Tryz.f34, [.io, .ro], false, mkEnv tys_k2 [(66, SwmarkInstrS)] [(66, [.sl 4])], fun _ => .stop, [LwmarkInstrSS_2]⟩
noncomputable def FwmarkInstrSS : List S → Option Res := veil QwmarkInstrSS.run
noncomputable def SwmarkInstrSS : Spec := ⟨[.io, .ro], false, FwmarkInstrSS⟩
theorem mwmarkInstrSS (x1 : Option Bool) (x2 : List (List C)) (x3 : Int) : FwmarkInstrSS [.one (.sl true x1 1 x2), .one (.int x3)] = iterC (RwmarkInstrSS_2 (fun y1 y2 y3 => fin false [.one (.sl true x1 1 x2), .one (.int x3)] [.one (.int y1)] [.one (.sl true y2 1 y3), .one .unk])) FUEL x3 0 x1 x2 := Fx.eq (by kernel_rfl)
theorem stwmarkInstrSS_2 : LwmarkInstrSS_2.Step QwmarkInstrSS.E QwmarkInstrSS.dr QwmarkInstrSS.lp ((findLoop 2 QwmarkInstrSS.code).getD .skip) := fun k nx v => by kernel_rfl
theorem okwmarkInstrSS : CalleeOk Go.Proofs.Tryz.prog 34 SwmarkInstrSS := Fx.ok (F := QwmarkInstrSS) follows (envTy_mk tys_k2_eq) (envSpec_of (specsOk_cons okwmarkInstrS specsOk_nil)) Go.Proofs.Tryz.func34 (by kernel_rfl) (by kernel_rfl) (by
  rw [show subs QwmarkInstrSS.code = [(findLoop 2 QwmarkInstrSS.code).getD .skip] by kernel_rfl]
  exact ⟨stepAt_some (by kernel_rfl) stwmarkInstrSS_2, trivial⟩) (by kernel_rfl) (by kernel_rfl) rfl
theorem FwmarkInstrSS_at (nl : Option Bool) (l : List (List Instr)) (k : Int) (h : l.length ≤ 1048576 ∧ sumL l ≤ 1048576 ∧ 0 ≤ k ∧ k ≤ 576460752303423488) : FwmarkInstrSS [S.one (C.sl true nl 1 (l.map (encCode true))), S.one (C.int k)] = some (S.one (C.int (k + 4 * sumL l)), [S.one (C.sl true nl 1 ((mkCodes l k).map (encCode true))), S.one C.unk]) := by
  rw [mwmarkInstrSS]
  obtain ⟨h1, h2, h3, h4⟩ := h
  have key : ∀ k0 : Int → Option Bool → List (List C) → Option Res, iterC (RwmarkInstrSS_2 k0) FUEL k 0 nl (l.map (encCode true)) = k0 (k + 4 * sumL l) nl ((mkCodes l k).map (encCode true)) := fun k0 => by
    have := iter_rec (h := hwmarkInstrSS_2) (fb := RwmarkInstrSS_2 k0) l (fun i (a : List (List Instr) × Int) f => f a.2 (i : Int) nl (a.1.map (encCode true))) (fun a r => k0 (a.2 + 4 * sumL r) nl ((a.1.take (l.length - r.length) ++ mkCodes r a.2).map (encCode true))) (fun i a => a.1.length = l.length ∧ a.1.drop i = l.drop i ∧ 0 ≤ a.2 ∧ a.2 + 4 * sumL (l.drop i) ≤ 576460752307617792) (by omega) ?_ ?_ (l, k) ⟨rfl, rfl, h3, by simp; omega⟩
    · simpa using this
    · intro nx a ha
      simp [RwmarkInstrSS_2, ha.1, mkCodes, List.take_of_length_le (Nat.le_of_eq ha.1)]
    · rintro nx i rest ⟨a, q⟩ hi ⟨ha1, ha2, ha3, ha4⟩ hW hd
      simp only at ha1 ha2 ha3 ha4 ⊢
      have hi' : i < a.length := by omega
      have d1 : l.drop i = l[i] :: rest := by rw [← hd]; exact List.drop_eq_getElem_cons hi
      have d2 : a.drop i = a[i] :: a.drop (i + 1) := List.drop_eq_getElem_cons hi'
      rw [d2, d1] at ha2
      obtain ⟨e1, e2⟩ := List.cons.inj ha2
      rw [d1, sumL_cons] at ha4
      have hs : l[i].length ≤ sumL l := sumL_mem (List.getElem_mem hi)
      have hm := FwmarkInstrS_at none l[i] q ⟨by omega, ha3, by omega⟩
      refine .inl ⟨(a.set i (mkInstrS l[i].length q), q + 4 * l[i].length), ⟨by simpa using ha1, ?_, by simp only; omega, ?_⟩, ?_, ?_⟩
      · simp only
        rw [List.drop_set_of_lt (by omega), e2, hd]
      · simp only [hd]; omega
      · simp [-List.map_set, RwmarkInstrSS_2, hi', hW, e1, hm, List.getElem?_eq_getElem hi']
      · simp only [sumL_cons, mkCodes]
        have hlen : rest.length = l.length - (i + 1) := by rw [← hd]; simp
        have t1 : l.length - (l[i] :: rest).length = i := by simp only [List.length_cons]; omega
        have t2 : l.length - rest.length = i + 1 := by omega
        rw [t1, t2, List.take_succ_eq_append_getElem (by simpa using hi'), List.take_set_of_le (by omega)]
        simp only [List.getElem_set_self, List.append_assoc, List.singleton_append]
        congr 1
        omega
  rw [key]
  simp
/-! wmarkProg: loop.example/g00712/laws.markProg -/
noncomputable def QwmarkProg : Fx := ⟨Go.Proofs.Tryz.f14, [.io, .ro], false, (mkEnv tys_k2 [(34, SwmarkInstrSS)] [(34, [.sl 1])]).paS, fun _ => .stop, []⟩
noncomputable def FwmarkProg : List S → Option Res := veil QwmarkProg.run
noncomputable def SwmarkProg : Spec := ⟨[.io, .ro], false, FwmarkProg⟩
theorem mwmarkProg (x1 : Int) (x2 : List (List C)) (x3 : Int) : FwmarkProg [.agg [.int x1, .sl true none 1 x2], .one (.int x3)] = cOV [.sl 1] false [.int .i64] (FwmarkInstrSS [.one (.sl true none 1 x2), .one (.int x3)]) fun o1 l1 n1 => fin false [.agg [.int x1, .sl true none 1 x2], .one (.int x3)] [.one (.int n1)] [.agg [.int x1, .sl true o1 1 l1], .one .unk] := Fx.eq (by kernel_rfl)
theorem okwmarkProg : CalleeOk Go.Proofs.Tryz.prog 14 SwmarkProg := Fx.ok (F := QwmarkProg) follows (envTy_mk tys_k2_eq).paS (envSpec_of (specsOk_cons okwmarkInstrSS specsOk_nil)).paS Go.Proofs.Tryz.func14 (by kernel_rfl) (by kernel_rfl) (by rw [show subs QwmarkProg.code = [] by kernel_rfl]; trivial) (by kernel_rfl) (by kernel_rfl) rfl
theorem FwmarkProg_at (p : Prog) (k : Int) (h : p.codes.length ≤ 1048576 ∧ sumL p.codes ≤ 1048576 ∧ 0 ≤ k ∧ k ≤ 576460752303423488) : FwmarkProg [S.agg (encProg true p), S.one (C.int k)] = some (S.one (C.int (k + 4 * sumL p.codes)), [S.agg (encProg true ⟨p.cells, mkCodes p.codes k⟩), S.one C.unk]) := by
  simp [mwmarkProg, FwmarkInstrSS_at _ _ _ h]
end Go.Proofs.Gh.Gm
set_option linter.unusedVariables false
set_option linter.unusedSimpArgs false
set_option maxRecDepth 100000
set_option maxHeartbeats 2000000
namespace Go.Proofs.Gh.Gm
def tys_k3 : List (Nat × TI) := [(3, ⟨false, 8, [.int .i64], [.int 0], .scalar, false⟩),
  (4, ⟨false, 1, [.bool], [.bool false], .scalar, false⟩),
  (25, ⟨false, 24, [.sl 1], [.sl true (some true) 1 []], .slice 3, false⟩),
  (35, ⟨true, 24, [.sl 1], [.sl true (some true) 1 []], .struct [(0, 1, false)], false⟩),
  (36, ⟨false, 24, [.sl 3], [.sl true (some true) 3 []], .slice 75, false⟩),
  (38, ⟨true, 48, [.sl 1, .sl 3], [.sl true (some true) 1 [], .sl true (some true) 3 []], .struct [(0, 1, true), (1, 1, false)], false⟩),
  (73, ⟨false, 24, [.sl 2], [.sl true (some true) 2 []], .slice 90, false⟩),
  (75, ⟨true, 56, [.int .i64, .sl 1, .sl 2], [.int 0, .sl true (some true) 1 [], .sl true (some true) 2 []], .struct [(0, 1, false), (1, 1, false), (2, 1, false)], false⟩)]
theorem tys_k3_eq : tys_k3.map (fun x => tiOf Go.Proofs.Tryz.prog x.1 x.2.cks) = tys_k3.map fun x => some x.2 := by kernel_rfl
structure Thread where
  pc : Int
  vals : List Int
  buf : List Slot
deriving DecidableEq
abbrev encTh (own : Bool) (t : Thread) : List C := [.int t.pc, .sl own none 1 (t.vals.map encInt), .sl own none 2 (t.buf.map encSlot)]
@[simp] theorem encTh_free (l : List Thread) : rowsFree (l.map (encTh true)) = true := rowsFree_map fun _ _ => by simp
@[simp] theorem encTh_freeze (l : List Thread) : freezeRows (l.map (encTh true)) = l.map (encTh false) := freezeRows_map fun _ _ => by simp [freezeRow, C.freeze]
structure Machine where
  cells : List Int
  ths : List Thread
deriving DecidableEq
abbrev encMa (own : Bool) (m : Machine) : List C := [.sl own none 1 (m.cells.map encInt), .sl own none 3 (m.ths.map (encTh own))]
def bndT (l : List Thread) : Prop := l.length ≤ 4611686018427387903 ∧ ∀ t ∈ l, t.vals.length ≤ 4611686018427387903 ∧ t.buf.length ≤ 4611686018427387903
/-! weqMem: loop.example/g00712/laws.eqMem -/
noncomputable def QweqMem : Fx := ⟨Go.Proofs.Tryz.f31, [.ro, .ro], false, mkEnv tys_k3 [(63, SweqIntS)] [], fun _ => .stop, []⟩
noncomputable def FweqMem : List S → Option Res := veil QweqMem.run
noncomputable def SweqMem : Spec := ⟨[.ro, .ro], false, FweqMem⟩
theorem mweqMem (x1 : List (List C)) (x2 : List (List C)) : FweqMem [.agg [.sl false none 1 x1], .agg [.sl false none 1 x2]] = cV false [.bool] (FweqIntS [.one (.sl false none 1 x1), .one (.sl false none 1 x2)]) fun b1 => bif !b1 then fr false 2 [.one (.bool false)] else fr false 2 [.one (.bool true)] := Fx.eq (by kernel_rfl)
theorem okweqMem : CalleeOk Go.Proofs.Tryz.prog 31 SweqMem := Fx.ok (F := QweqMem) follows (envTy_mk tys_k3_eq) (envSpec_of (specsOk_cons okweqIntS specsOk_nil)) Go.Proofs.Tryz.func31 (by kernel_rfl) (by kernel_rfl) (by rw [show subs QweqMem.code = [] by kernel_rfl]; trivial) (by kernel_rfl) (by kernel_rfl) rfl
theorem FweqMem_at (a b : List Int) (h : a.length < 4611686018427387904) : FweqMem [S.agg [C.sl false none 1 (a.map encInt)], S.agg [C.sl false none 1 (b.map encInt)]] = some (S.one (C.bool (decide (a = b))), [S.one C.unk, S.one C.unk]) := by
  rw [mweqMem, FweqIntS_at _ _ _ _ h]
  cases decide (a = b) <;> simp
/-! weqThread: loop.example/g00712/laws.eqThread -/
noncomputable def QweqThread : Fx := ⟨Go.Proofs.Tryz.f64, [.ro, .ro], false, mkEnv tys_k3 [(63, SweqIntS), (88, SweqSlotS)] [], fun _ => .stop, []⟩
noncomputable def FweqThread : List S → Option Res := veil QweqThread.run
noncomputable def SweqThread : Spec := ⟨[.ro, .ro], false, FweqThread⟩
theorem mweqThread (x1 : Int) (x2 : List (List C)) (x3 : List (List C)) (x4 : Int) (x5 : List (List C)) (x6 : List (List C)) : FweqThread [.agg [.int x1, .sl false none 1 x2, .sl false none 2 x3], .agg [.int x4, .sl false none 1 x5, .sl false none 2 x6]] = bif x1 != x4 then fr false 2 [.one (.bool false)] else cV false [.bool] (FweqIntS [.one (.sl false none 1 x2), .one (.sl false none 1 x5)]) fun b1 => bif !b1 then fr false 2 [.one (.bool false)] else cV false [.bool] (FweqSlotS [.one (.sl false none 2 x3), .one (.sl false none 2 x6)]) fun b2 => bif !b2 then fr false 2 [.one (.bool false)] else fr false 2 [.one (.bool true)] := Fx.eq (by kernel_rfl)
theorem okweqThread : CalleeOk Go.Proofs.Tryz.prog 64 SweqThread := Fx.ok (F := QweqThread) follows (envTy_mk tys_k3_eq) (envSpec_of (specsOk_cons okweqIntS (specsOk_cons okweqSlotS specsOk_nil))) Go.Proofs.Tryz.func64 (by kernel_rfl) (by kernel_rfl) (by rw [show subs QweqThread.code = [] by kernel_rfl]; trivial) (by kernel_rfl) (by kernel_rfl) rfl
theorem FweqThread_at (a b : Thread) (h : a.vals.length < 4611686018427387904 ∧ a.buf.length < 4611686018427387904) : FweqThread [S.agg (encTh false a), S.agg (encTh false b)] = some (S.one (C.bool (decide (a = b))), [S.one C.unk, S.one C.unk]) := by
  have e : decide (a = b) = ((a.pc == b.pc) && decide (a.vals = b.vals) && decide (a.buf = b.buf)) := by rw [Bool.eq_iff_iff]; cases a; cases b; simp [and_assoc]
  rw [mweqThread, e]
  simp only [bne, FweqIntS_at _ _ _ _ h.1, FweqSlotS_at _ _ _ _ h.2]
  cases (a.pc == b.pc) <;> cases decide (a.vals = b.vals) <;> cases decide (a.buf = b.buf) <;> simp
/-! weqThreadS: loop.example/g00712/laws.eqThreadS -/
@[reducible] def hweqThreadS_4 : Sh := ⟨[.one (.o (.sl false 3)), .one (.o (.sl false 3)), .one (.o (.i .i64))], []⟩
@[reducible] def xweqThreadS_4 : List (Ex × Sh) := [(.ret, ⟨[.one (.o .b)], []⟩), (.exit 0, ⟨[.one (.o .u)], []⟩)]
noncomputable def RweqThreadS_4 : KC xweqThreadS_4 (hweqThreadS_4.K → hweqThreadS_4.K) := fun k0 k1 nx v1 v2 v3 v4 v5 => bif decide (v5 < (v2.length : Int)) then ix v5 v2 ((v2[Int.toNat v5]?).bind fun w1 => tRo [.int .i64, .sl 1, .sl 2] w1 fun n1 _ l1 _ l2 => ix v5 v4 ((v4[Int.toNat v5]?).bind fun w2 => tRo [.int .i64, .sl 1, .sl 2] w2 fun n2 _ l3 _ l4 => cV false [.bool] (FweqThread [.agg [.int n1, .sl false none 1 l1, .sl false none 2 l2], .agg [.int n2, .sl false none 1 l3, .sl false none 2 l4]]) fun b1 => bif !b1 then k0 false else nx v1 v2 v3 v4 (W (v5 + 1)))) else k1
noncomputable def LweqThreadS_4 : Lp := ⟨4, [0, 1, 5], [4], 0, 27, hweqThreadS_4, xweqThreadS_4, RweqThreadS_4⟩
noncomputable def QweqThreadS : Fx := ⟨Go.Proofs.Tryz.f32, [.ro, .ro], false, mkEnv tys_k3 [(64, SweqThread)] [], fun id => bif Nat.beq id 6 then .sq [0, 1, 2, 3, 4, 5, 6, 7, 8, 9] .stop else .stop, [LweqThreadS_4]⟩
noncomputable def FweqThreadS : List S → Option Res := veil QweqThreadS.run
noncomputable def SweqThreadS : Spec := ⟨[.ro, .ro], false, FweqThreadS⟩
theorem mweqThreadS (x1 : Option Bool) (x2 : List (List C)) (x3 : Option Bool) (x4 : List (List C)) : FweqThreadS [.one (.sl false x1 3 x2), .one (.sl false x3 3 x4)] = bif (x2.length : Int) != (x4.length : Int) then fr false 2 [.one (.bool false)] else iterC (RweqThreadS_4 (fun y1 => fr false 2 [.one (.bool y1)]) (fr false 2 [.one (.bool true)])) FUEL x1 x2 x3 x4 0 := Fx.eq (by kernel_rfl)
theorem stweqThreadS_4 : LweqThreadS_4.Step QweqThreadS.E QweqThreadS.dr QweqThreadS.lp ((findLoop 4 QweqThreadS.code).getD .skip) := fun k nx v => by kernel_rfl
theorem okweqThreadS : CalleeOk Go.Proofs.Tryz.prog 32 SweqThreadS := Fx.ok (F := QweqThreadS) follows (envTy_mk tys_k3_eq) (envSpec_of (specsOk_cons okweqThread specsOk_nil)) Go.Proofs.Tryz.func32 (by kernel_rfl) (by kernel_rfl) (by
  rw [show subs QweqThreadS.code = [(findLoop 4 QweqThreadS.code).getD .skip] by kernel_rfl]
  exact ⟨stepAt_some (by kernel_rfl) stweqThreadS_4, trivial⟩) (by kernel_rfl) (by kernel_rfl) rfl
theorem FweqThreadS_at (nl : Option Bool) (a : List Thread) (nl' : Option Bool) (b : List Thread) (h : bndT a) : FweqThreadS [S.one (C.sl false nl 3 (a.map (encTh false))), S.one (C.sl false nl' 3 (b.map (encTh false)))] = some (S.one (C.bool (decide (a = b))), [S.one C.unk, S.one C.unk]) := by
  rw [mweqThreadS]
  by_cases hl : a.length = b.length
  · have e1 : (((a.map (encTh false)).length : Int) != ((b.map (encTh false)).length : Int)) = false := by simp [hl]
    rw [e1, cond_false]
    refine (iter_eq (h := hweqThreadS_4) a b (fun i f => f nl (a.map (encTh false)) nl' (b.map (encTh false)) (i : Int)) (fr false 2 [.one (.bool true)]) (fr false 2 [.one (.bool false)]) (by have := h.1; omega) hl ?_ ?_).trans ?_
    · intro nx; simp [RweqThreadS_4]
    · intro nx i hi hi' hW
      have hb := h.2 _ (List.getElem_mem hi)
      simp [RweqThreadS_4, hi, hi', hW, FweqThread_at a[i] b[i] ⟨by omega, by omega⟩]
      try (cases decide (a[i] = b[i]) <;> simp)
    · by_cases e : a = b <;> simp [e]
  · have e1 : (((a.map (encTh false)).length : Int) != ((b.map (encTh false)).length : Int)) = true := by simp; omega
    have e2 : ¬ a = b := fun e => hl (by rw [e])
    rw [e1]; simp [e2]
/-! weqMachine: loop.example/g00712/laws.eqMachine -/
noncomputable def QweqMachine : Fx := ⟨Go.Proofs.Tryz.f12, [.ro, .ro], false, mkEnv tys_k3 [(31, SweqMem), (32, SweqThreadS)] [], fun _ => .stop, []⟩
noncomputable def FweqMachine : List S → Option Res := veil QweqMachine.run
noncomputable def SweqMachine : Spec := ⟨[.ro, .ro], false, FweqMachine⟩
theorem mweqMachine (x1 : List (List C)) (x2 : List (List C)) (x3 : List (List C)) (x4 : List (List C)) : FweqMachine [.agg [.sl false none 1 x1, .sl false none 3 x2], .agg [.sl false none 1 x3, .sl false none 3 x4]] = cV false [.bool] (FweqMem [.agg [.sl false none 1 x1], .agg [.sl false none 1 x3]]) fun b1 => bif !b1 then fr false 2 [.one (.bool false)] else cV false [.bool] (FweqThreadS [.one (.sl false none 3 x2), .one (.sl false none 3 x4)]) fun b2 => bif !b2 then fr false 2 [.one (.bool false)] else fr false 2 [.one (.bool true)] := Fx.eq (by kernel_rfl)
theorem okweqMachine : CalleeOk Go.Proofs.Tryz.prog 12 SweqMachine := Fx.ok (F := QweqMachine) follows (envTy_mk tys_k3_eq) (envSpec_of (specsOk_cons okweqMem (specsOk_cons okweqThreadS specsOk_nil))) Go.Proofs.Tryz.func12 (by kernel_rfl) (by kernel_rfl) (by rw [show subs QweqMachine.code = [] by kernel_rfl]; trivial) (by kernel_rfl) (by kernel_rfl) rfl
theorem FweqMachine_at (a b : Machine) (h : a.cells.length < 4611686018427387904 ∧ bndT a.ths) : FweqMachine [S.agg (encMa false a), S.agg (encMa false b)] = some (S.one (C.bool (decide (a = b))), [S.one C.unk, S.one C.unk]) := by
  have e : decide (a = b) = (decide (a.cells = b.cells) && decide (a.ths = b.ths)) := by rw [Bool.eq_iff_iff]; cases a; cases b; simp
  rw [mweqMachine, e]
  simp only [FweqMem_at _ _ h.1, FweqThreadS_at _ _ _ _ h.2]
  cases decide (a.cells = b.cells) <;> cases decide (a.ths = b.ths) <;> simp
def thN (t : Thread) : Int := 1 + t.vals.length + 2 * t.buf.length
theorem thN_pos (t : Thread) : 0 < thN t := by unfold thN; omega
def thsN : List Thread → Int
  | [] => 0
  | t :: ts => thN t + thsN ts
theorem thsN_pos : ∀ l, 0 ≤ thsN l
  | [] => by simp [thsN]
  | t :: l => by have := thN_pos t; have := thsN_pos l; simp only [thsN]; omega
def mkTh (t : Thread) (k : Int) : Thread := ⟨k, mkIntS t.vals.length (k + 1), mkSlotS t.buf.length (k + 1 + t.vals.length)⟩
def mkThs : List Thread → Int → List Thread
  | [], _ => []
  | t :: ts, k => mkTh t k :: mkThs ts (k + thN t)
@[simp] theorem mkThs_len : ∀ (l : List Thread) (k : Int), (mkThs l k).length = l.length
  | [], _ => rfl
  | t :: l, k => by simp [mkThs, mkThs_len l]
theorem thN_mem {l : List Thread} {t : Thread} (h : t ∈ l) : thN t ≤ thsN l := by
  induction l with
  | nil => cases h
  | cons a l ih =>
    have := thsN_pos l; have := thN_pos a
    rcases List.mem_cons.1 h with rfl | h
    · simp only [thsN]; omega
    · have := ih h; simp only [thsN]; omega
def bT (l : List Thread) : Prop := l.length ≤ 1048576 ∧ ∀ t ∈ l, t.vals.length ≤ 1048576 ∧ t.buf.length ≤ 1048576
@[simp] theorem md_Th0 {l : List Thread} {i : Nat} (v : Int) (hi : i < l.length) : md (l.map (encTh true)) i 0 (.int v) = (l.set i ⟨v, l[i].vals, l[i].buf⟩).map (encTh true) := md_map hi rfl
@[simp] theorem md_Th1 {l : List Thread} {i : Nat} (v : List Int) (hi : i < l.length) : md (l.map (encTh true)) i 1 (.sl true none 1 (v.map encInt)) = (l.set i ⟨l[i].pc, v, l[i].buf⟩).map (encTh true) := md_map hi rfl
@[simp] theorem md_Th2 {l : List Thread} {i : Nat} (v : List Slot) (hi : i < l.length) : md (l.map (encTh true)) i 2 (.sl true none 2 (v.map encSlot)) = (l.set i ⟨l[i].pc, l[i].vals, v⟩).map (encTh true) := md_map hi rfl
/-! wmarkThreadS: loop.example/g00712/laws.markThreadS -/
@[reducible] def hwmarkThreadS_2 : Sh := ⟨[.one (.o (.al 0 0 [])), .one (.o (.i .i64)), .one (.o (.i .i64))], [(false, [.o (.sl true 3)])]⟩
@[reducible] def xwmarkThreadS_2 : List (Ex × Sh) := [(.exit 0, ⟨[.one (.o (.i .i64))], [(false, [.o (.sl true 3)])]⟩)]
noncomputable def RwmarkThreadS_2 : KC xwmarkThreadS_2 (hwmarkThreadS_2.K → hwmarkThreadS_2.K) := fun k0 nx v1 v2 v3 v4 => bif decide (v2 < (v4.length : Int)) then ix v2 v4 (oc (.int .i64) v4 (Int.toNat v2) 0 ((let e1 : List (List C) := md v4 (Int.toNat v2) 0 (.int v1); ix v2 e1 ((e1[Int.toNat v2]?).bind fun w1 => tOwn [.sl 1] (List.drop 1 w1) ((e1[Int.toNat v2]?).bind fun w2 => (w2[1]?).bind fun c1 => own3 c1 fun o1 m1 l1 => (FwmarkIntS [.one (.sl true o1 m1 l1), .one (.int (W (v1 + 1)))]).bind fun r1 => tOuts id [.sl 1] r1.2 fun o2 l2 => ((md e1 (Int.toNat v2) 1 .unk)[Int.toNat v2]?).bind fun w3 => (w3[1]?).bind fun c2 => ((md e1 (Int.toNat v2) 1 .unk)[Int.toNat v2]?).bind fun w4 => (w4[1]?).bind fun c3 => tOne id false [.int .i64] r1.1 fun n1 => ix v2 (md (md e1 (Int.toNat v2) 1 .unk) (Int.toNat v2) 1 (.sl true o2 1 l2)) (((md (md e1 (Int.toNat v2) 1 .unk) (Int.toNat v2) 1 (.sl true o2 1 l2))[Int.toNat v2]?).bind fun w5 => tOwn [.sl 2] (List.drop 2 w5) (((md (md e1 (Int.toNat v2) 1 .unk) (Int.toNat v2) 1 (.sl true o2 1 l2))[Int.toNat v2]?).bind fun w6 => (w6[2]?).bind fun c4 => own3 c4 fun o3 m2 l3 => (FwmarkSlotS [.one (.sl true o3 m2 l3), .one (.int n1)]).bind fun r2 => tOuts id [.sl 2] r2.2 fun o4 l4 => ((md (md (md e1 (Int.toNat v2) 1 .unk) (Int.toNat v2) 1 (.sl true o2 1 l2)) (Int.toNat v2) 2 .unk)[Int.toNat v2]?).bind fun w7 => (w7[2]?).bind fun c5 => ((md (md (md e1 (Int.toNat v2) 1 .unk) (Int.toNat v2) 1 (.sl true o2 1 l2)) (Int.toNat v2) 2 .unk)[Int.toNat v2]?).bind fun w8 => (w8[2]?).bind fun c6 => tOne id false [.int .i64] r2.1 fun n2 => nx n2 (W (v2 + 1)) v3 (md (md (md (md e1 (Int.toNat v2) 1 .unk) (Int.toNat v2) 1 (.sl true o2 1 l2)) (Int.toNat v2) 2 .unk) (Int.toNat v2) 2 (.sl true o4 2 l4))))))))) else k0 v1 v3 v4
noncomputable def LwmarkThreadS_2 : Lp := ⟨2, [0, 1, 5], [1], 1, 34, hwmarkThreadS_2, xwmarkThreadS_2, RwmarkThreadS_2⟩
noncomputable def QwmarkThreadS : Fx := ⟨Go.Proofs.Tryz.f36, [.io, .ro], false, mkEnv tys_k3 [(67, SwmarkIntS), (68, SwmarkSlotS)] [(67, [.sl 1]), (68, [.sl 2])], fun _ => .stop, [LwmarkThreadS_2]⟩
noncomputable def FwmarkThreadS : List S → Option Res := veil QwmarkThreadS.run
noncomputable def SwmarkThreadS : Spec := ⟨[.io, .ro], false, FwmarkThreadS⟩
theorem mwmarkThreadS (x1 : Option Bool) (x2 : List (List C)) (x3 : Int) : FwmarkThreadS [.one (.sl true x1 3 x2), .one (.int x3)] = iterC (RwmarkThreadS_2 (fun y1 y2 y3 => fin false [.one (.sl true x1 3 x2), .one (.int x3)] [.one (.int y1)] [.one (.sl true y2 3 y3), .one .unk])) FUEL x3 0 x1 x2 := Fx.eq (by kernel_rfl)
theorem stwmarkThreadS_2 : LwmarkThreadS_2.Step QwmarkThreadS.E QwmarkThreadS.dr QwmarkThreadS.lp ((findLoop 2 QwmarkThreadS.code).getD .skip) := fun k nx v => by kernel_rfl
theorem okwmarkThreadS : CalleeOk Go.Proofs.Tryz.prog 36 SwmarkThreadS := Fx.ok (F := QwmarkThreadS) follows (envTy_mk tys_k3_eq) (envSpec_of (specsOk_cons okwmarkIntS (specsOk_cons okwmarkSlotS specsOk_nil))) Go.Proofs.Tryz.func36 (by kernel_rfl) (by kernel_rfl) (by
  rw [show subs QwmarkThreadS.code = [(findLoop 2 QwmarkThreadS.code).getD .skip] by kernel_rfl]
  exact ⟨stepAt_some (by kernel_rfl) stwmarkThreadS_2, trivial⟩) (by kernel_rfl) (by kernel_rfl) rfl
theorem FwmarkThreadS_at (nl : Option Bool) (l : List Thread) (k : Int) (h : bT l ∧ 0 ≤ k ∧ k + thsN l ≤ 1152921504606846976) : FwmarkThreadS [S.one (C.sl true nl 3 (l.map (encTh true))), S.one (C.int k)] = some (S.one (C.int (k + thsN l)), [S.one (C.sl true nl 3 ((mkThs l k).map (encTh true))), S.one C.unk]) := by
  rw [mwmarkThreadS]
  obtain ⟨⟨h1, h2⟩, h3, h4⟩ := h
  have key : ∀ k0 : Int → Option Bool → List (List C) → Option Res, iterC (RwmarkThreadS_2 k0) FUEL k 0 nl (l.map (encTh true)) = k0 (k + thsN l) nl ((mkThs l k).map (encTh true)) := fun k0 => by
    have := iter_rec (h := hwmarkThreadS_2) (fb := RwmarkThreadS_2 k0) l (fun i (a : List Thread × Int) f => f a.2 (i : Int) nl (a.1.map (encTh true))) (fun a r => k0 (a.2 + thsN r) nl ((a.1.take (l.length - r.length) ++ mkThs r a.2).map (encTh true))) (fun i a => a.1.length = l.length ∧ a.1.drop i = l.drop i ∧ 0 ≤ a.2 ∧ a.2 + thsN (l.drop i) ≤ 1152921504606846976) (by omega) ?_ ?_ (l, k) ⟨rfl, rfl, h3, by simpa using h4⟩
    · simpa using this
    · intro nx a ha
      simp [RwmarkThreadS_2, ha.1, mkThs, thsN, List.take_of_length_le (Nat.le_of_eq ha.1)]
    · rintro nx i rest ⟨a, q⟩ hi ⟨ha1, ha2, ha3, ha4⟩ hW hd
      simp only at ha1 ha2 ha3 ha4 ⊢
      have hi' : i < a.length := by omega
      have d1 : l.drop i = l[i] :: rest := by rw [← hd]; exact List.drop_eq_getElem_cons hi
      have d2 : a.drop i = a[i] :: a.drop (i + 1) := List.drop_eq_getElem_cons hi'
      rw [d2, d1] at ha2
      obtain ⟨e1, e2⟩ := List.cons.inj ha2
      rw [d1, thsN] at ha4
      have hr := thsN_pos rest
      obtain ⟨hv, hb⟩ := h2 _ (List.getElem_mem hi)
      have e3 : q + 1 + (l[i].vals.length : Int) + 2 * l[i].buf.length = q + thN l[i] := by unfold thN; omega
      have hw : W (q + 1) = q + 1 := W_eq (by omega) (by unfold thN at ha4; omega)
      have hm1 := FwmarkIntS_at none l[i].vals (q + 1) ⟨hv, by omega, by unfold thN at ha4; omega⟩
      have hm2 := FwmarkSlotS_at none l[i].buf (q + 1 + l[i].vals.length) ⟨hb, by omega, by unfold thN at ha4; omega⟩
      rw [e3] at hm2
      refine .inl ⟨(a.set i (mkTh l[i] q), q + thN l[i]), ⟨by simpa using ha1, ?_, by have := thN_pos l[i]; simp only; omega, ?_⟩, ?_, ?_⟩
      · simp only
        rw [List.drop_set_of_lt (by omega), e2, hd]
      · simp only [hd]; omega
      · simp [-List.map_set, RwmarkThreadS_2, hi', hW, hw, e1, hm1, hm2, List.getElem?_eq_getElem hi', mkTh]
      · simp only [thsN, mkThs]
        have hlen : rest.length = l.length - (i + 1) := by rw [← hd]; simp
        have t1 : l.length - (l[i] :: rest).length = i := by simp only [List.length_cons]; omega
        have t2 : l.length - rest.length = i + 1 := by omega
        rw [t1, t2, List.take_succ_eq_append_getElem (by simpa using hi'), List.take_set_of_le (by omega)]
        simp only [List.getElem_set_self, List.append_assoc, List.singleton_append]
        congr 1
        omega
  rw [key]
  simp
/-! wheldThreadS: loop.example/g00712/laws.heldThreadS -/
@[reducible] def hwheldThreadS_2 : Sh := ⟨[.one (.o (.sl false 3)), .one (.o (.i .i64)), .one (.o (.i .i64))], []⟩
@[reducible] def xwheldThreadS_2 : List (Ex × Sh) := [(.ret, ⟨[.one (.o (.i .i64)), .one (.o (.i .i64))], []⟩), (.exit 0, ⟨[.one (.o (.i .i64)), .one (.o .u)], []⟩)]
noncomputable def RwheldThreadS_2 : KC xwheldThreadS_2 (hwheldThreadS_2.K → hwheldThreadS_2.K) := fun k0 k1 nx v1 v2 v3 v4 => bif decide (v4 < (v2.length : Int)) then ix v4 v2 ((v2[Int.toNat v4]?).bind fun w1 => tRo [.int .i64] w1 fun n1 => bif n1 != v3 then k0 v3 (-1) else ix v4 v2 ((v2[Int.toNat v4]?).bind fun w2 => tRo [.sl 1] (List.drop 1 w2) fun _ l1 => cV false [.int .i64] (FwheldIntS [.one (.sl false none 1 l1), .one (.int (W (v3 + 1)))]) fun n2 => bif decide (n2 < 0) then k0 n2 (-1) else ix v4 v2 ((v2[Int.toNat v4]?).bind fun w3 => tRo [.sl 2] (List.drop 2 w3) fun _ l2 => cV false [.int .i64] (FwheldSlotS [.one (.sl false none 2 l2), .one (.int n2)]) fun n3 => bif decide (n3 < 0) then k0 n3 (-1) else nx v1 v2 n3 (W (v4 + 1))))) else k1 v3
noncomputable def LwheldThreadS_2 : Lp := ⟨2, [0, 1, 5], [1, 4], 0, 40, hwheldThreadS_2, xwheldThreadS_2, RwheldThreadS_2⟩
noncomputable def QwheldThreadS : Fx := ⟨Go.Proofs.Tryz.f38, [.ro, .ro], false, mkEnv tys_k3 [(69, SwheldIntS), (70, SwheldSlotS)] [], fun _ => .stop, [LwheldThreadS_2]⟩
noncomputable def FwheldThreadS : List S → Option Res := veil QwheldThreadS.run
noncomputable def SwheldThreadS : Spec := ⟨[.ro, .ro], false, FwheldThreadS⟩
theorem mwheldThreadS (x1 : Option Bool) (x2 : List (List C)) (x3 : Int) : FwheldThreadS [.one (.sl false x1 3 x2), .one (.int x3)] = iterC (RwheldThreadS_2 (fun y1 y2 => fr false 2 [.one (.int y2)]) (fun y3 => fr false 2 [.one (.int y3)])) FUEL x1 x2 x3 0 := Fx.eq (by kernel_rfl)
theorem stwheldThreadS_2 : LwheldThreadS_2.Step QwheldThreadS.E QwheldThreadS.dr QwheldThreadS.lp ((findLoop 2 QwheldThreadS.code).getD .skip) := fun k nx v => by kernel_rfl
theorem okwheldThreadS : CalleeOk Go.Proofs.Tryz.prog 38 SwheldThreadS := Fx.ok (F := QwheldThreadS) follows (envTy_mk tys_k3_eq) (envSpec_of (specsOk_cons okwheldIntS (specsOk_cons okwheldSlotS specsOk_nil))) Go.Proofs.Tryz.func38 (by kernel_rfl) (by kernel_rfl) (by
  rw [show subs QwheldThreadS.code = [(findLoop 2 QwheldThreadS.code).getD .skip] by kernel_rfl]
  exact ⟨stepAt_some (by kernel_rfl) stwheldThreadS_2, trivial⟩) (by kernel_rfl) (by kernel_rfl) rfl
theorem FwheldThreadS_at (nl : Option Bool) (l : List Thread) (k : Int) (h : bT l ∧ 0 ≤ k ∧ k + thsN l ≤ 1152921504606846976) : FwheldThreadS [S.one (C.sl false nl 3 ((mkThs l k).map (encTh false))), S.one (C.int k)] = some (S.one (C.int (k + thsN l)), [S.one C.unk, S.one C.unk]) := by
  rw [mwheldThreadS]
  obtain ⟨⟨h1, h2⟩, h3, h4⟩ := h
  refine (iter_rec (h := hwheldThreadS_2) (mkThs l k) (fun i (q : Int) f => f nl ((mkThs l k).map (encTh false)) q (i : Int)) (fun _ _ => fr false 2 [.one (.int (k + thsN l))]) (fun i q => ∃ ts : List Thread, (mkThs l k).drop i = mkThs ts q ∧ q + thsN ts = k + thsN l ∧ 0 ≤ q ∧ ∀ t ∈ ts, t.vals.length ≤ 1048576 ∧ t.buf.length ≤ 1048576) (by simp; omega) ?_ ?_ k ⟨l, rfl, rfl, h3, h2⟩).trans (by simp)
  · rintro nx q ⟨ts, e1, e2, _, _⟩
    rw [List.drop_length] at e1
    cases ts with
    | nil => simp only [thsN, Int.add_zero] at e2; simp [RwheldThreadS_2, e2]
    | cons t ts => simp [mkThs] at e1
  · rintro nx i rest q hi ⟨ts, e1, e2, e3, e4⟩ hW hd
    rw [List.drop_eq_getElem_cons hi, hd] at e1
    cases ts with
    | nil => simp [mkThs] at e1
    | cons t ts =>
      obtain ⟨e5, e6⟩ := List.cons.inj e1
      simp only [thsN] at e2
      have hp := thsN_pos ts
      obtain ⟨hv, hb⟩ := e4 t (by simp)
      have e7 : q + 1 + (t.vals.length : Int) + 2 * t.buf.length = q + thN t := by unfold thN; omega
      have hw : W (q + 1) = q + 1 := W_eq (by omega) (by unfold thN at e2; omega)
      have hm1 := FwheldIntS_at none t.vals.length (q + 1) ⟨hv, by omega, by unfold thN at e2; omega⟩
      have hm2 := FwheldSlotS_at none t.buf.length (q + 1 + t.vals.length) ⟨hb, by omega, by unfold thN at e2; omega⟩
      rw [e7] at hm2
      have n1 : ¬ q + 1 + (t.vals.length : Int) < 0 := by omega
      have n2 : ¬ q + thN t < 0 := by have := thN_pos t; omega
      have hi' : i < l.length := by simpa using hi
      refine .inl ⟨q + thN t, ⟨ts, by rw [hd]; exact e6, by omega, by have := thN_pos t; omega, fun x hx => e4 x (by simp [hx])⟩, ?_, rfl⟩
      simp [RwheldThreadS_2, hi, hi', hW, hw, e5, mkTh, hm1, hm2, n1, n2]
end Go.Proofs.Gh.Gm
set_option linter.unusedVariables false
set_option linter.unusedSimpArgs false
set_option maxRecDepth 100000
set_option maxHeartbeats 2000000
namespace Go.Proofs.Gh.Gm
def tys_m1 : List (Nat × TI) := [(3, ⟨false, 8, [.int .i64], [.int 0], .scalar, false⟩),
  (4, ⟨false, 1, [.bool], [.bool false], .scalar, false⟩),
  (25, ⟨false, 24, [.sl 1], [.sl true (some true) 1 []], .slice 3, false⟩),
  (35, ⟨true, 24, [.sl 1], [.sl true (some true) 1 []], .struct [(0, 1, false)], false⟩),
  (41, ⟨false, 24, [.sl 1], [.sl true (some true) 1 []], .slice 76, false⟩),
  (43, ⟨true, 32, [.int .i64, .sl 1], [.int 0, .sl true (some true) 1 []], .struct [(0, 1, false), (1, 1, false)], false⟩),
  (73, ⟨false, 24, [.sl 2], [.sl true (some true) 2 []], .slice 90, false⟩),
  (76, ⟨false, 24, [.sl 4], [.sl true (some true) 4 []], .slice 92, false⟩),
  (90, ⟨true, 16, [.int .i64, .int .i64], [.int 0, .int 0], .struct [(0, 1, false), (1, 1, false)], true⟩),
  (92, ⟨true, 32, [.int .i64, .int .i64, .int .i64, .int .i64], [.int 0, .int 0, .int 0, .int 0], .struct [(0, 1, false), (1, 1, false), (2, 1, false), (3, 1, false)], true⟩),
  (108, ⟨false, 8, [.other], [.v Value.nilFunc], .scalar, false⟩),
  (110, ⟨false, 8, [.other], [.v Value.nilFunc], .scalar, false⟩),
  (124, ⟨false, 8, [.other], [.v Value.nilFunc], .scalar, false⟩)]
theorem tys_m1_eq : tys_m1.map (fun x => tiOf Go.Proofs.Tryz.prog x.1 x.2.cks) = tys_m1.map fun x => some x.2 := by kernel_rfl
def isV (n : Int) : Bool := inB n (-1000000) 1000000
def memOk (c : List Int) : Bool := inB c.length 1 16 && c.all isV
def slotOk (s : Slot) : Bool := inB s.a 0 15 && isV s.v
def bufOk (b : List Slot) : Bool := decide (b.length ≤ 3) && b.all slotOk
def useR (o : Int) : Bool := o != 4
def useS (o : Int) : Bool := o == 1 || o == 8 || o == 5 || o == 7
def useN (o : Int) : Bool := o != 1 && o != 8 && o != 4
def instrOk (i : Instr) (cells size : Int) : Bool :=
  inB cells 1 16 && inB size 0 16 && inB i.op 0 8 && inB i.r 0 3 && inB i.s 0 3 && (useR i.op || i.r == 0) && (useS i.op || i.s == 0) &&
    (bif !useN i.op then i.n == 0 else bif i.op == 0 then inB i.n (-1000) 1000 else bif i.op == 6 then inB i.n 0 size else inB i.n 0 (cells - 1))
def codeOk (cells : Int) (c : List Instr) : Bool := decide (c.length ≤ 16) && c.all fun i => instrOk i cells c.length
def progOk (p : Prog) : Bool := inB p.cells 1 16 && inB p.codes.length 1 3 && p.codes.all (codeOk p.cells)
def thOk (cells : Int) (t : Thread) (c : List Instr) : Bool := inB t.pc 0 c.length && t.vals.length == 4 && t.vals.all isV && bufOk t.buf && t.buf.all fun s => decide (s.a < cells)
def isMa (p : Prog) (m : Machine) : Bool := memOk m.cells && decide ((m.cells.length : Int) = p.cells) && decide (m.ths.length = p.codes.length) && (m.ths.zip p.codes).all fun x => thOk p.cells x.1 x.2
def fenceI (i : Instr) : Bool := i.op == 4 || i.op == 5 || i.op == 7
theorem any_not {α : Type} (p : α → Bool) (l : List α) : (!l.any fun x => !p x) = l.all p := by induction l <;> simp_all
abbrev smallL {α : Type} (l : List α) : Prop := l.length ≤ 4611686018427387903
/-! iwithin: loop.example/g00712/impl.within -/
noncomputable def Qiwithin : Fx := ⟨Go.Proofs.Tryz.f77, [.ro, .ro, .ro], false, mkEnv tys_m1 [] [], fun _ => .stop, []⟩
noncomputable def Fiwithin : List S → Option Res := veil Qiwithin.run
noncomputable def Siwithin : Spec := ⟨[.ro, .ro, .ro], false, Fiwithin⟩
theorem miwithin (x1 : Int) (x2 : Int) (x3 : Int) : Fiwithin [.one (.int x1), .one (.int x2), .one (.int x3)] = bif decide (x1 ≥ x2) then fr false 3 [.one (.bool (decide (x1 ≤ x3)))] else fr false 3 [.one (.bool false)] := Fx.eq (by kernel_rfl)
theorem okiwithin : CalleeOk Go.Proofs.Tryz.prog 77 Siwithin := Fx.ok (F := Qiwithin) follows (envTy_mk tys_m1_eq) (envSpec_of (specsOk_nil)) Go.Proofs.Tryz.func77 (by kernel_rfl) (by kernel_rfl) (by rw [show subs Qiwithin.code = [] by kernel_rfl]; trivial) (by kernel_rfl) (by kernel_rfl) rfl
theorem Fiwithin_at (n a b : Int) : Fiwithin [S.one (C.int n), S.one (C.int a), S.one (C.int b)] = some (S.one (C.bool (inB n a b)), [S.one C.unk, S.one C.unk, S.one C.unk]) := by
  by_cases h1 : a ≤ n <;> simp [miwithin, inB, h1]
/-! sl01In: loop.example/g00712/spec.l01In -/
noncomputable def Qsl01In : Fx := ⟨Go.Proofs.Tryz.f40, [.ro, .ro, .ro], false, mkEnv tys_m1 [] [], fun _ => .stop, []⟩
noncomputable def Fsl01In : List S → Option Res := veil Qsl01In.run
noncomputable def Ssl01In : Spec := ⟨[.ro, .ro, .ro], false, Fsl01In⟩
theorem msl01In (x1 : Int) (x2 : Int) (x3 : Int) : Fsl01In [.one (.int x1), .one (.int x2), .one (.int x3)] = bif decide (x2 ≤ x1) then fr false 3 [.one (.bool (decide (x1 ≤ x3)))] else fr false 3 [.one (.bool false)] := Fx.eq (by kernel_rfl)
theorem oksl01In : CalleeOk Go.Proofs.Tryz.prog 40 Ssl01In := Fx.ok (F := Qsl01In) follows (envTy_mk tys_m1_eq) (envSpec_of (specsOk_nil)) Go.Proofs.Tryz.func40 (by kernel_rfl) (by kernel_rfl) (by rw [show subs Qsl01In.code = [] by kernel_rfl]; trivial) (by kernel_rfl) (by kernel_rfl) rfl
theorem Fsl01In_at (n a b : Int) : Fsl01In [S.one (C.int n), S.one (C.int a), S.one (C.int b)] = some (S.one (C.bool (inB n a b)), [S.one C.unk, S.one C.unk, S.one C.unk]) := by
  by_cases h1 : a ≤ n <;> simp [msl01In, inB, h1]
/-! iisValue: loop.example/g00712/impl.isValue -/
noncomputable def QiisValue : Fx := ⟨Go.Proofs.Tryz.f110, [.ro], false, mkEnv tys_m1 [(77, Siwithin)] [], fun _ => .stop, []⟩
noncomputable def FiisValue : List S → Option Res := veil QiisValue.run
noncomputable def SiisValue : Spec := ⟨[.ro], false, FiisValue⟩
theorem miisValue (x1 : Int) : FiisValue [.one (.int x1)] = cV false [.bool] (Fiwithin [.one (.int x1), .one (.int (-1000000)), .one (.int 1000000)]) fun b1 => fr false 1 [.one (.bool b1)] := Fx.eq (by kernel_rfl)
theorem okiisValue : CalleeOk Go.Proofs.Tryz.prog 110 SiisValue := Fx.ok (F := QiisValue) follows (envTy_mk tys_m1_eq) (envSpec_of (specsOk_cons okiwithin specsOk_nil)) Go.Proofs.Tryz.func110 (by kernel_rfl) (by kernel_rfl) (by rw [show subs QiisValue.code = [] by kernel_rfl]; trivial) (by kernel_rfl) (by kernel_rfl) rfl
theorem FiisValue_at (n : Int) : FiisValue [S.one (C.int n)] = some (S.one (C.bool (isV n)), [S.one C.unk]) := by
  simp [miisValue, Fiwithin_at, isV]
/-! sl01Value: loop.example/g00712/spec.l01Value -/
noncomputable def Qsl01Value : Fx := ⟨Go.Proofs.Tryz.f74, [.ro], false, mkEnv tys_m1 [(40, Ssl01In)] [], fun _ => .stop, []⟩
noncomputable def Fsl01Value : List S → Option Res := veil Qsl01Value.run
noncomputable def Ssl01Value : Spec := ⟨[.ro], false, Fsl01Value⟩
theorem msl01Value (x1 : Int) : Fsl01Value [.one (.int x1)] = cV false [.bool] (Fsl01In [.one (.int x1), .one (.int (-1000000)), .one (.int 1000000)]) fun b1 => fr false 1 [.one (.bool b1)] := Fx.eq (by kernel_rfl)
theorem oksl01Value : CalleeOk Go.Proofs.Tryz.prog 74 Ssl01Value := Fx.ok (F := Qsl01Value) follows (envTy_mk tys_m1_eq) (envSpec_of (specsOk_cons oksl01In specsOk_nil)) Go.Proofs.Tryz.func74 (by kernel_rfl) (by kernel_rfl) (by rw [show subs Qsl01Value.code = [] by kernel_rfl]; trivial) (by kernel_rfl) (by kernel_rfl) rfl
theorem Fsl01Value_at (n : Int) : Fsl01Value [S.one (C.int n)] = some (S.one (C.bool (isV n)), [S.one C.unk]) := by
  simp [msl01Value, Fsl01In_at, isV]
/-! iareValues_1: loop.example/g00712/impl.areValues$1 -/
noncomputable def QiareValues_1 : Fx := ⟨Go.Proofs.Tryz.f109, [.ro], false, mkEnv tys_m1 [(110, SiisValue)] [], fun _ => .stop, []⟩
noncomputable def FiareValues_1 : List S → Option Res := veil QiareValues_1.run
noncomputable def SiareValues_1 : Spec := ⟨[.ro], false, FiareValues_1⟩
theorem miareValues_1 (x1 : Int) : FiareValues_1 [.one (.int x1)] = cV false [.bool] (FiisValue [.one (.int x1)]) fun b1 => fr false 1 [.one (.bool (!b1))] := Fx.eq (by kernel_rfl)
theorem okiareValues_1 : CalleeOk Go.Proofs.Tryz.prog 109 SiareValues_1 := Fx.ok (F := QiareValues_1) follows (envTy_mk tys_m1_eq) (envSpec_of (specsOk_cons okiisValue specsOk_nil)) Go.Proofs.Tryz.func109 (by kernel_rfl) (by kernel_rfl) (by rw [show subs QiareValues_1.code = [] by kernel_rfl]; trivial) (by kernel_rfl) (by kernel_rfl) rfl
theorem FiareValues_1_at (n : Int) : FiareValues_1 [S.one (C.int n)] = some (S.one (C.bool (!isV n)), [S.one C.unk]) := by
  simp [miareValues_1, FiisValue_at]
/-! slicesIndexFunc_int_iareValues_1: slices.IndexFunc[[]int,int] -/
@[reducible] def hslicesIndexFunc_int_iareValues_1_2 : Sh := ⟨[.one (.o (.sl false 1)), .one (.fn 109 []), .one (.o (.i .i64)), .one (.o (.i .i64))], []⟩
@[reducible] def xslicesIndexFunc_int_iareValues_1_2 : List (Ex × Sh) := [(.ret, ⟨[.one (.o (.i .i64))], []⟩), (.exit 0, ⟨[.one (.o .u)], []⟩)]
noncomputable def RslicesIndexFunc_int_iareValues_1_2 : KC xslicesIndexFunc_int_iareValues_1_2 (hslicesIndexFunc_int_iareValues_1_2.K → hslicesIndexFunc_int_iareValues_1_2.K) := fun k0 k1 nx v1 v2 v3 v4 => bif decide (v4 < v3) then ix v4 v2 ((v2[Int.toNat v4]?).bind fun w1 => tRo [.int .i64] w1 fun n1 => cV false [.bool] (FiareValues_1 [.one (.int n1)]) fun b1 => bif b1 then k0 v4 else nx v1 v2 v3 (W (v4 + 1))) else k1
noncomputable def LslicesIndexFunc_int_iareValues_1_2 : Lp := ⟨2, [0, 1, 7, 8], [4], 0, 19, hslicesIndexFunc_int_iareValues_1_2, xslicesIndexFunc_int_iareValues_1_2, RslicesIndexFunc_int_iareValues_1_2⟩
noncomputable def QslicesIndexFunc_int_iareValues_1 : Fx := ⟨Go.Proofs.Tryz.f115, [.ro, .ro], false, mkEnv tys_m1 [(109, SiareValues_1)] [], fun _ => .stop, [LslicesIndexFunc_int_iareValues_1_2]⟩
noncomputable def FslicesIndexFunc_int_iareValues_1 : List S → Option Res := veil QslicesIndexFunc_int_iareValues_1.run
noncomputable def SslicesIndexFunc_int_iareValues_1 : Spec := ⟨[.ro, .ro], false, FslicesIndexFunc_int_iareValues_1⟩
theorem mslicesIndexFunc_int_iareValues_1 (x1 : Option Bool) (x2 : List (List C)) : FslicesIndexFunc_int_iareValues_1 [.one (.sl false x1 1 x2), .one (.fn 109 [])] = iterC (RslicesIndexFunc_int_iareValues_1_2 (fun y1 => fr false 2 [.one (.int y1)]) (fr false 2 [.one (.int (-1))])) FUEL x1 x2 (x2.length : Int) 0 := Fx.eq (by kernel_rfl)
theorem stslicesIndexFunc_int_iareValues_1_2 : LslicesIndexFunc_int_iareValues_1_2.Step QslicesIndexFunc_int_iareValues_1.E QslicesIndexFunc_int_iareValues_1.dr QslicesIndexFunc_int_iareValues_1.lp ((findLoop 2 QslicesIndexFunc_int_iareValues_1.code).getD .skip) := fun k nx v => by kernel_rfl
theorem okslicesIndexFunc_int_iareValues_1 : CalleeOk Go.Proofs.Tryz.prog 115 SslicesIndexFunc_int_iareValues_1 := Fx.ok (F := QslicesIndexFunc_int_iareValues_1) follows (envTy_mk tys_m1_eq) (envSpec_of (specsOk_cons okiareValues_1 specsOk_nil)) Go.Proofs.Tryz.func115 (by kernel_rfl) (by kernel_rfl) (by
  rw [show subs QslicesIndexFunc_int_iareValues_1.code = [(findLoop 2 QslicesIndexFunc_int_iareValues_1.code).getD .skip] by kernel_rfl]
  exact ⟨stepAt_some (by kernel_rfl) stslicesIndexFunc_int_iareValues_1_2, trivial⟩) (by kernel_rfl) (by kernel_rfl) rfl
theorem FslicesIndexFunc_int_iareValues_1_at (nl : Option Bool) (l : List Int) (h : smallL l) : FslicesIndexFunc_int_iareValues_1 [S.one (C.sl false nl 1 (l.map encInt)), S.one (C.fn 109 [])] = some (S.one (C.int (bif l.any (fun n => !isV n) then (l.findIdx (fun n => !isV n) : Int) else -1)), [S.one C.unk, S.one C.unk]) := by
  rw [mslicesIndexFunc_int_iareValues_1]
  refine (iter_find (h := hslicesIndexFunc_int_iareValues_1_2) l (fun i f => f nl (l.map encInt) ((l.map encInt).length : Int) (i : Int)) (fun n => !isV n) (fun i => fr false 2 [.one (.int i)]) (fr false 2 [.one (.int (-1))]) (by omega) ?_ ?_).trans ?_
  · intro nx; simp [RslicesIndexFunc_int_iareValues_1_2]
  · intro nx i hi hW; simp [RslicesIndexFunc_int_iareValues_1_2, hi, hW, FiareValues_1_at]
  · cases l.any (fun n => !isV n) <;> simp
/-! slicesContainsFunc_int_iareValues_1: slices.ContainsFunc[[]int,int] -/
noncomputable def QslicesContainsFunc_int_iareValues_1 : Fx := ⟨Go.Proofs.Tryz.f108, [.ro, .ro], false, mkEnv tys_m1 [(115, SslicesIndexFunc_int_iareValues_1)] [], fun _ => .stop, []⟩
noncomputable def FslicesContainsFunc_int_iareValues_1 : List S → Option Res := veil QslicesContainsFunc_int_iareValues_1.run
noncomputable def SslicesContainsFunc_int_iareValues_1 : Spec := ⟨[.ro, .ro], false, FslicesContainsFunc_int_iareValues_1⟩
theorem mslicesContainsFunc_int_iareValues_1 (x1 : Option Bool) (x2 : List (List C)) : FslicesContainsFunc_int_iareValues_1 [.one (.sl false x1 1 x2), .one (.fn 109 [])] = cV false [.int .i64] (FslicesIndexFunc_int_iareValues_1 [.one (.sl false x1 1 x2), .one (.fn 109 [])]) fun n1 => fr false 2 [.one (.bool (decide (n1 ≥ 0)))] := Fx.eq (by kernel_rfl)
theorem okslicesContainsFunc_int_iareValues_1 : CalleeOk Go.Proofs.Tryz.prog 108 SslicesContainsFunc_int_iareValues_1 := Fx.ok (F := QslicesContainsFunc_int_iareValues_1) follows (envTy_mk tys_m1_eq) (envSpec_of (specsOk_cons okslicesIndexFunc_int_iareValues_1 specsOk_nil)) Go.Proofs.Tryz.func108 (by kernel_rfl) (by kernel_rfl) (by rw [show subs QslicesContainsFunc_int_iareValues_1.code = [] by kernel_rfl]; trivial) (by kernel_rfl) (by kernel_rfl) rfl
theorem FslicesContainsFunc_int_iareValues_1_at (nl : Option Bool) (l : List Int) (h : smallL l) : FslicesContainsFunc_int_iareValues_1 [S.one (C.sl false nl 1 (l.map encInt)), S.one (C.fn 109 [])] = some (S.one (C.bool (l.any fun n => !isV n)), [S.one C.unk, S.one C.unk]) := by
  rw [mslicesContainsFunc_int_iareValues_1, FslicesIndexFunc_int_iareValues_1_at _ _ h]
  cases l.any (fun n => !isV n) <;> simp
/-! iareValues: loop.example/g00712/impl.areValues -/
noncomputable def QiareValues : Fx := ⟨Go.Proofs.Tryz.f95, [.ro], false, mkEnv tys_m1 [(108, SslicesContainsFunc_int_iareValues_1)] [], fun _ => .stop, []⟩
noncomputable def FiareValues : List S → Option Res := veil QiareValues.run
noncomputable def SiareValues : Spec := ⟨[.ro], false, FiareValues⟩
theorem miareValues (x1 : Option Bool) (x2 : List (List C)) : FiareValues [.one (.sl false x1 1 x2)] = cV false [.bool] (FslicesContainsFunc_int_iareValues_1 [.one (.sl false x1 1 x2), .one (.fn 109 [])]) fun b1 => fr false 1 [.one (.bool (!b1))] := Fx.eq (by kernel_rfl)
theorem okiareValues : CalleeOk Go.Proofs.Tryz.prog 95 SiareValues := Fx.ok (F := QiareValues) follows (envTy_mk tys_m1_eq) (envSpec_of (specsOk_cons okslicesContainsFunc_int_iareValues_1 specsOk_nil)) Go.Proofs.Tryz.func95 (by kernel_rfl) (by kernel_rfl) (by rw [show subs QiareValues.code = [] by kernel_rfl]; trivial) (by kernel_rfl) (by kernel_rfl) rfl
theorem FiareValues_at (nl : Option Bool) (l : List Int) (h : smallL l) : FiareValues [S.one (C.sl false nl 1 (l.map encInt))] = some (S.one (C.bool (l.all isV)), [S.one C.unk]) := by
  simp [miareValues, FslicesContainsFunc_int_iareValues_1_at _ _ h, any_not]
/-! iMemOk: loop.example/g00712/impl.MemOk -/
noncomputable def QiMemOk : Fx := ⟨Go.Proofs.Tryz.f94, [.ro], false, mkEnv tys_m1 [(77, Siwithin), (95, SiareValues)] [], fun _ => .stop, []⟩
noncomputable def FiMemOk : List S → Option Res := veil QiMemOk.run
noncomputable def SiMemOk : Spec := ⟨[.ro], false, FiMemOk⟩
theorem miMemOk (x1 : List (List C)) : FiMemOk [.agg [.sl false none 1 x1]] = cV false [.bool] (Fiwithin [.one (.int (x1.length : Int)), .one (.int 1), .one (.int 16)]) fun b1 => bif b1 then cV false [.bool] (FiareValues [.one (.sl false none 1 x1)]) fun b2 => fr false 1 [.one (.bool b2)] else fr false 1 [.one (.bool false)] := Fx.eq (by kernel_rfl)
theorem okiMemOk : CalleeOk Go.Proofs.Tryz.prog 94 SiMemOk := Fx.ok (F := QiMemOk) follows (envTy_mk tys_m1_eq) (envSpec_of (specsOk_cons okiwithin (specsOk_cons okiareValues specsOk_nil))) Go.Proofs.Tryz.func94 (by kernel_rfl) (by kernel_rfl) (by rw [show subs QiMemOk.code = [] by kernel_rfl]; trivial) (by kernel_rfl) (by kernel_rfl) rfl
theorem FiMemOk_at (l : List Int) (h : smallL l) : FiMemOk [S.agg [C.sl false none 1 (l.map encInt)]] = some (S.one (C.bool (memOk l)), [S.one C.unk]) := by
  cases e : inB l.length 1 16 <;> simp [miMemOk, Fiwithin_at, FiareValues_at _ _ h, memOk, e]
/-! iBufOk_1: loop.example/g00712/impl.BufOk$1 -/
noncomputable def QiBufOk_1 : Fx := ⟨Go.Proofs.Tryz.f111, [.ro], false, mkEnv tys_m1 [(110, SiisValue), (77, Siwithin)] [], fun _ => .stop, []⟩
noncomputable def FiBufOk_1 : List S → Option Res := veil QiBufOk_1.run
noncomputable def SiBufOk_1 : Spec := ⟨[.ro], false, FiBufOk_1⟩
theorem miBufOk_1 (x1 : Int) (x2 : Int) : FiBufOk_1 [.agg [.int x1, .int x2]] = cV false [.bool] (Fiwithin [.one (.int x1), .one (.int 0), .one (.int 15)]) fun b1 => bif !b1 then fr false 1 [.one (.bool true)] else cV false [.bool] (FiisValue [.one (.int x2)]) fun b2 => fr false 1 [.one (.bool (!b2))] := Fx.eq (by kernel_rfl)
theorem okiBufOk_1 : CalleeOk Go.Proofs.Tryz.prog 111 SiBufOk_1 := Fx.ok (F := QiBufOk_1) follows (envTy_mk tys_m1_eq) (envSpec_of (specsOk_cons okiisValue (specsOk_cons okiwithin specsOk_nil))) Go.Proofs.Tryz.func111 (by kernel_rfl) (by kernel_rfl) (by rw [show subs QiBufOk_1.code = [] by kernel_rfl]; trivial) (by kernel_rfl) (by kernel_rfl) rfl
theorem FiBufOk_1_at (s : Slot) : FiBufOk_1 [S.agg (encSlot s)] = some (S.one (C.bool (!slotOk s)), [S.one C.unk]) := by
  cases e : inB s.a 0 15 <;> simp [miBufOk_1, Fiwithin_at, FiisValue_at, slotOk, e]
/-! slicesIndexFunc_iSlot_iBufOk_1: slices.IndexFunc[[]loop.example/g00712/impl.Slot,loop.example/g00712/impl.Slot] -/
@[reducible] def hslicesIndexFunc_iSlot_iBufOk_1_2 : Sh := ⟨[.one (.o (.sl false 2)), .one (.fn 111 []), .one (.o (.i .i64)), .one (.o (.i .i64))], []⟩
@[reducible] def xslicesIndexFunc_iSlot_iBufOk_1_2 : List (Ex × Sh) := [(.ret, ⟨[.one (.o (.i .i64))], []⟩), (.exit 0, ⟨[.one (.o .u)], []⟩)]
noncomputable def RslicesIndexFunc_iSlot_iBufOk_1_2 : KC xslicesIndexFunc_iSlot_iBufOk_1_2 (hslicesIndexFunc_iSlot_iBufOk_1_2.K → hslicesIndexFunc_iSlot_iBufOk_1_2.K) := fun k0 k1 nx v1 v2 v3 v4 => bif decide (v4 < v3) then ix v4 v2 ((v2[Int.toNat v4]?).bind fun w1 => tRo [.int .i64, .int .i64] w1 fun n1 n2 => cV false [.bool] (FiBufOk_1 [.agg [.int n1, .int n2]]) fun b1 => bif b1 then k0 v4 else nx v1 v2 v3 (W (v4 + 1))) else k1
noncomputable def LslicesIndexFunc_iSlot_iBufOk_1_2 : Lp := ⟨2, [0, 1, 7, 8], [4], 0, 19, hslicesIndexFunc_iSlot_iBufOk_1_2, xslicesIndexFunc_iSlot_iBufOk_1_2, RslicesIndexFunc_iSlot_iBufOk_1_2⟩
noncomputable def QslicesIndexFunc_iSlot_iBufOk_1 : Fx := ⟨Go.Proofs.Tryz.f112, [.ro, .ro], false, mkEnv tys_m1 [(111, SiBufOk_1)] [], fun _ => .stop, [LslicesIndexFunc_iSlot_iBufOk_1_2]⟩
noncomputable def FslicesIndexFunc_iSlot_iBufOk_1 : List S → Option Res := veil QslicesIndexFunc_iSlot_iBufOk_1.run
noncomputable def SslicesIndexFunc_iSlot_iBufOk_1 : Spec := ⟨[.ro, .ro], false, FslicesIndexFunc_iSlot_iBufOk_1⟩
theorem mslicesIndexFunc_iSlot_iBufOk_1 (x1 : Option Bool) (x2 : List (List C)) : FslicesIndexFunc_iSlot_iBufOk_1 [.one (.sl false x1 2 x2), .one (.fn 111 [])] = iterC (RslicesIndexFunc_iSlot_iBufOk_1_2 (fun y1 => fr false 2 [.one (.int y1)]) (fr false 2 [.one (.int (-1))])) FUEL x1 x2 (x2.length : Int) 0 := Fx.eq (by kernel_rfl)
theorem stslicesIndexFunc_iSlot_iBufOk_1_2 : LslicesIndexFunc_iSlot_iBufOk_1_2.Step QslicesIndexFunc_iSlot_iBufOk_1.E QslicesIndexFunc_iSlot_iBufOk_1.dr QslicesIndexFunc_iSlot_iBufOk_1.lp ((findLoop 2 QslicesIndexFunc_iSlot_iBufOk_1.code).getD .skip) := fun k nx v => by kernel_rfl
theorem okslicesIndexFunc_iSlot_iBufOk_1 : CalleeOk Go.Proofs.Tryz.prog 112 SslicesIndexFunc_iSlot_iBufOk_1 := Fx.ok (F := QslicesIndexFunc_iSlot_iBufOk_1) follows (envTy_mk tys_m1_eq) (envSpec_of (specsOk_cons okiBufOk_1 specsOk_nil)) Go.Proofs.Tryz.func112 (by kernel_rfl) (by kernel_rfl) (by
  rw [show subs QslicesIndexFunc_iSlot_iBufOk_1.code = [(findLoop 2 QslicesIndexFunc_iSlot_iBufOk_1.code).getD .skip] by kernel_rfl]
  exact ⟨stepAt_some (by kernel_rfl) stslicesIndexFunc_iSlot_iBufOk_1_2, trivial⟩) (by kernel_rfl) (by kernel_rfl) rfl
theorem FslicesIndexFunc_iSlot_iBufOk_1_at (nl : Option Bool) (l : List Slot) (h : smallL l) : FslicesIndexFunc_iSlot_iBufOk_1 [S.one (C.sl false nl 2 (l.map encSlot)), S.one (C.fn 111 [])] = some (S.one (C.int (bif l.any (fun n => !slotOk n) then (l.findIdx (fun n => !slotOk n) : Int) else -1)), [S.one C.unk, S.one C.unk]) := by
  rw [mslicesIndexFunc_iSlot_iBufOk_1]
  refine (iter_find (h := hslicesIndexFunc_iSlot_iBufOk_1_2) l (fun i f => f nl (l.map encSlot) ((l.map encSlot).length : Int) (i : Int)) (fun n => !slotOk n) (fun i => fr false 2 [.one (.int i)]) (fr false 2 [.one (.int (-1))]) (by omega) ?_ ?_).trans ?_
  · intro nx; simp [RslicesIndexFunc_iSlot_iBufOk_1_2]
  · intro nx i hi hW; simp [RslicesIndexFunc_iSlot_iBufOk_1_2, hi, hW, FiBufOk_1_at]
  · cases l.any (fun n => !slotOk n) <;> simp
/-! slicesContainsFunc_iSlot_iBufOk_1: slices.ContainsFunc[[]loop.example/g00712/impl.Slot,loop.example/g00712/impl.Slot] -/
noncomputable def QslicesContainsFunc_iSlot_iBufOk_1 : Fx := ⟨Go.Proofs.Tryz.f97, [.ro, .ro], false, mkEnv tys_m1 [(112, SslicesIndexFunc_iSlot_iBufOk_1)] [], fun _ => .stop, []⟩
noncomputable def FslicesContainsFunc_iSlot_iBufOk_1 : List S → Option Res := veil QslicesContainsFunc_iSlot_iBufOk_1.run
noncomputable def SslicesContainsFunc_iSlot_iBufOk_1 : Spec := ⟨[.ro, .ro], false, FslicesContainsFunc_iSlot_iBufOk_1⟩
theorem mslicesContainsFunc_iSlot_iBufOk_1 (x1 : Option Bool) (x2 : List (List C)) : FslicesContainsFunc_iSlot_iBufOk_1 [.one (.sl false x1 2 x2), .one (.fn 111 [])] = cV false [.int .i64] (FslicesIndexFunc_iSlot_iBufOk_1 [.one (.sl false x1 2 x2), .one (.fn 111 [])]) fun n1 => fr false 2 [.one (.bool (decide (n1 ≥ 0)))] := Fx.eq (by kernel_rfl)
theorem okslicesContainsFunc_iSlot_iBufOk_1 : CalleeOk Go.Proofs.Tryz.prog 97 SslicesContainsFunc_iSlot_iBufOk_1 := Fx.ok (F := QslicesContainsFunc_iSlot_iBufOk_1) follows (envTy_mk tys_m1_eq) (envSpec_of (specsOk_cons okslicesIndexFunc_iSlot_iBufOk_1 specsOk_nil)) Go.Proofs.Tryz.func97 (by kernel_rfl) (by kernel_rfl) (by rw [show subs QslicesContainsFunc_iSlot_iBufOk_1.code = [] by kernel_rfl]; trivial) (by kernel_rfl) (by kernel_rfl) rfl
theorem FslicesContainsFunc_iSlot_iBufOk_1_at (nl : Option Bool) (l : List Slot) (h : smallL l) : FslicesContainsFunc_iSlot_iBufOk_1 [S.one (C.sl false nl 2 (l.map encSlot)), S.one (C.fn 111 [])] = some (S.one (C.bool (l.any fun n => !slotOk n)), [S.one C.unk, S.one C.unk]) := by
  rw [mslicesContainsFunc_iSlot_iBufOk_1, FslicesIndexFunc_iSlot_iBufOk_1_at _ _ h]
  cases l.any (fun n => !slotOk n) <;> simp
/-! iBufOk: loop.example/g00712/impl.BufOk -/
noncomputable def QiBufOk : Fx := ⟨Go.Proofs.Tryz.f96, [.ro], false, mkEnv tys_m1 [(97, SslicesContainsFunc_iSlot_iBufOk_1)] [], fun _ => .stop, []⟩
noncomputable def FiBufOk : List S → Option Res := veil QiBufOk.run
noncomputable def SiBufOk : Spec := ⟨[.ro], false, FiBufOk⟩
theorem miBufOk (x1 : Option Bool) (x2 : List (List C)) : FiBufOk [.one (.sl false x1 2 x2)] = bif decide ((x2.length : Int) ≤ 3) then cV false [.bool] (FslicesContainsFunc_iSlot_iBufOk_1 [.one (.sl false x1 2 x2), .one (.fn 111 [])]) fun b1 => fr false 1 [.one (.bool (!b1))] else fr false 1 [.one (.bool false)] := Fx.eq (by kernel_rfl)
theorem okiBufOk : CalleeOk Go.Proofs.Tryz.prog 96 SiBufOk := Fx.ok (F := QiBufOk) follows (envTy_mk tys_m1_eq) (envSpec_of (specsOk_cons okslicesContainsFunc_iSlot_iBufOk_1 specsOk_nil)) Go.Proofs.Tryz.func96 (by kernel_rfl) (by kernel_rfl) (by rw [show subs QiBufOk.code = [] by kernel_rfl]; trivial) (by kernel_rfl) (by kernel_rfl) rfl
theorem FiBufOk_at (nl : Option Bool) (l : List Slot) (h : smallL l) : FiBufOk [S.one (C.sl false nl 2 (l.map encSlot))] = some (S.one (C.bool (bufOk l)), [S.one C.unk]) := by
  by_cases e : l.length ≤ 3
  · have e2 : (l.length : Int) ≤ 3 := by omega
    simp [miBufOk, FslicesContainsFunc_iSlot_iBufOk_1_at _ _ h, any_not, bufOk, e, e2]
  · have e2 : ¬ (l.length : Int) ≤ 3 := by omega
    simp [miBufOk, bufOk, e, e2]
/-! iInstr_usesR: (loop.example/g00712/impl.Instr).usesR -/
noncomputable def QiInstr_usesR : Fx := ⟨Go.Proofs.Tryz.f105, [.ro], false, mkEnv tys_m1 [] [], fun _ => .stop, []⟩
noncomputable def FiInstr_usesR : List S → Option Res := veil QiInstr_usesR.run
noncomputable def SiInstr_usesR : Spec := ⟨[.ro], false, FiInstr_usesR⟩
theorem miInstr_usesR (x1 : Int) (x2 : Int) (x3 : Int) (x4 : Int) : FiInstr_usesR [.agg [.int x1, .int x2, .int x3, .int x4]] = fr false 1 [.one (.bool (x1 != 4))] := Fx.eq (by kernel_rfl)
theorem okiInstr_usesR : CalleeOk Go.Proofs.Tryz.prog 105 SiInstr_usesR := Fx.ok (F := QiInstr_usesR) follows (envTy_mk tys_m1_eq) (envSpec_of (specsOk_nil)) Go.Proofs.Tryz.func105 (by kernel_rfl) (by kernel_rfl) (by rw [show subs QiInstr_usesR.code = [] by kernel_rfl]; trivial) (by kernel_rfl) (by kernel_rfl) rfl
theorem FiInstr_usesR_at (i : Instr) : FiInstr_usesR [S.agg (encInstr i)] = some (S.one (C.bool (useR i.op)), [S.one C.unk]) := by
  simp [miInstr_usesR, useR]
/-! iInstr_usesS: (loop.example/g00712/impl.Instr).usesS -/
noncomputable def QiInstr_usesS : Fx := ⟨Go.Proofs.Tryz.f106, [.ro], false, mkEnv tys_m1 [] [], fun _ => .stop, []⟩
noncomputable def FiInstr_usesS : List S → Option Res := veil QiInstr_usesS.run
noncomputable def SiInstr_usesS : Spec := ⟨[.ro], false, FiInstr_usesS⟩
theorem miInstr_usesS (x1 : Int) (x2 : Int) (x3 : Int) (x4 : Int) : FiInstr_usesS [.agg [.int x1, .int x2, .int x3, .int x4]] = bif x1 == 1 then fr false 1 [.one (.bool true)] else bif x1 == 8 then fr false 1 [.one (.bool true)] else bif x1 == 5 then fr false 1 [.one (.bool true)] else fr false 1 [.one (.bool (x1 == 7))] := Fx.eq (by kernel_rfl)
theorem okiInstr_usesS : CalleeOk Go.Proofs.Tryz.prog 106 SiInstr_usesS := Fx.ok (F := QiInstr_usesS) follows (envTy_mk tys_m1_eq) (envSpec_of (specsOk_nil)) Go.Proofs.Tryz.func106 (by kernel_rfl) (by kernel_rfl) (by rw [show subs QiInstr_usesS.code = [] by kernel_rfl]; trivial) (by kernel_rfl) (by kernel_rfl) rfl
theorem FiInstr_usesS_at (i : Instr) : FiInstr_usesS [S.agg (encInstr i)] = some (S.one (C.bool (useS i.op)), [S.one C.unk]) := by
  simp only [miInstr_usesS, useS]
  cases (i.op == 1) <;> cases (i.op == 8) <;> cases (i.op == 5) <;> simp
/-! iInstr_usesN: (loop.example/g00712/impl.Instr).usesN -/
noncomputable def QiInstr_usesN : Fx := ⟨Go.Proofs.Tryz.f107, [.ro], false, mkEnv tys_m1 [] [], fun _ => .stop, []⟩
noncomputable def FiInstr_usesN : List S → Option Res := veil QiInstr_usesN.run
noncomputable def SiInstr_usesN : Spec := ⟨[.ro], false, FiInstr_usesN⟩
theorem miInstr_usesN (x1 : Int) (x2 : Int) (x3 : Int) (x4 : Int) : FiInstr_usesN [.agg [.int x1, .int x2, .int x3, .int x4]] = bif x1 != 1 then bif x1 != 8 then fr false 1 [.one (.bool (x1 != 4))] else fr false 1 [.one (.bool false)] else fr false 1 [.one (.bool false)] := Fx.eq (by kernel_rfl)
theorem okiInstr_usesN : CalleeOk Go.Proofs.Tryz.prog 107 SiInstr_usesN := Fx.ok (F := QiInstr_usesN) follows (envTy_mk tys_m1_eq) (envSpec_of (specsOk_nil)) Go.Proofs.Tryz.func107 (by kernel_rfl) (by kernel_rfl) (by rw [show subs QiInstr_usesN.code = [] by kernel_rfl]; trivial) (by kernel_rfl) (by kernel_rfl) rfl
theorem FiInstr_usesN_at (i : Instr) : FiInstr_usesN [S.agg (encInstr i)] = some (S.one (C.bool (useN i.op)), [S.one C.unk]) := by
  simp only [miInstr_usesN, useN]
  cases (i.op != 1) <;> cases (i.op != 8) <;> simp
/-! iisRegister: loop.example/g00712/impl.isRegister -/
noncomputable def QiisRegister : Fx := ⟨Go.Proofs.Tryz.f104, [.ro], false, mkEnv tys_m1 [(77, Siwithin)] [], fun _ => .stop, []⟩
noncomputable def FiisRegister : List S → Option Res := veil QiisRegister.run
noncomputable def SiisRegister : Spec := ⟨[.ro], false, FiisRegister⟩
theorem miisRegister (x1 : Int) : FiisRegister [.one (.int x1)] = cV false [.bool] (Fiwithin [.one (.int x1), .one (.int 0), .one (.int 3)]) fun b1 => fr false 1 [.one (.bool b1)] := Fx.eq (by kernel_rfl)
theorem okiisRegister : CalleeOk Go.Proofs.Tryz.prog 104 SiisRegister := Fx.ok (F := QiisRegister) follows (envTy_mk tys_m1_eq) (envSpec_of (specsOk_cons okiwithin specsOk_nil)) Go.Proofs.Tryz.func104 (by kernel_rfl) (by kernel_rfl) (by rw [show subs QiisRegister.code = [] by kernel_rfl]; trivial) (by kernel_rfl) (by kernel_rfl) rfl
theorem FiisRegister_at (n : Int) : FiisRegister [S.one (C.int n)] = some (S.one (C.bool (inB n 0 3)), [S.one C.unk]) := by
  simp [miisRegister, Fiwithin_at]
/-! iInstrOk: loop.example/g00712/impl.InstrOk -/
noncomputable def QiInstrOk : Fx := ⟨Go.Proofs.Tryz.f93, [.ro, .ro, .ro], false, mkEnv tys_m1 [(104, SiisRegister), (105, SiInstr_usesR), (106, SiInstr_usesS), (107, SiInstr_usesN), (77, Siwithin)] [], fun _ => .stop, []⟩
noncomputable def FiInstrOk : List S → Option Res := veil QiInstrOk.run
noncomputable def SiInstrOk : Spec := ⟨[.ro, .ro, .ro], false, FiInstrOk⟩
theorem miInstrOk (x1 : Int) (x2 : Int) (x3 : Int) (x4 : Int) (x5 : Int) (x6 : Int) : FiInstrOk [.agg [.int x1, .int x2, .int x3, .int x4], .one (.int x5), .one (.int x6)] = cV false [.bool] (Fiwithin [.one (.int x5), .one (.int 1), .one (.int 16)]) fun b1 => bif !b1 then fr false 3 [.one (.bool false)] else cV false [.bool] (Fiwithin [.one (.int x6), .one (.int 0), .one (.int 16)]) fun b2 => bif !b2 then fr false 3 [.one (.bool false)] else cV false [.bool] (Fiwithin [.one (.int x1), .one (.int 0), .one (.int 8)]) fun b3 => bif !b3 then fr false 3 [.one (.bool false)] else cV false [.bool] (FiisRegister [.one (.int x2)]) fun b4 => bif !b4 then fr false 3 [.one (.bool false)] else cV false [.bool] (FiisRegister [.one (.int x3)]) fun b5 => bif !b5 then fr false 3 [.one (.bool false)] else cV false [.bool] (FiInstr_usesR [.agg [.int x1, .int x2, .int x3, .int x4]]) fun b6 => bif !b6 then bif x2 != 0 then fr false 3 [.one (.bool false)] else cV false [.bool] (FiInstr_usesS [.agg [.int x1, .int x2, .int x3, .int x4]]) fun b7 => bif !b7 then bif x3 != 0 then fr false 3 [.one (.bool false)] else cV false [.bool] (FiInstr_usesN [.agg [.int x1, .int x2, .int x3, .int x4]]) fun b8 => bif !b8 then fr false 3 [.one (.bool (x4 == 0))] else bif x1 == 0 then cV false [.bool] (Fiwithin [.one (.int x4), .one (.int (-1000)), .one (.int 1000)]) fun b9 => fr false 3 [.one (.bool b9)] else bif x1 == 6 then cV false [.bool] (Fiwithin [.one (.int x4), .one (.int 0), .one (.int x6)]) fun b10 => fr false 3 [.one (.bool b10)] else cV false [.bool] (Fiwithin [.one (.int x4), .one (.int 0), .one (.int (W (x5 - 1)))]) fun b11 => fr false 3 [.one (.bool b11)] else cV false [.bool] (FiInstr_usesN [.agg [.int x1, .int x2, .int x3, .int x4]]) fun b12 => bif !b12 then fr false 3 [.one (.bool (x4 == 0))] else bif x1 == 0 then cV false [.bool] (Fiwithin [.one (.int x4), .one (.int (-1000)), .one (.int 1000)]) fun b13 => fr false 3 [.one (.bool b13)] else bif x1 == 6 then cV false [.bool] (Fiwithin [.one (.int x4), .one (.int 0), .one (.int x6)]) fun b14 => fr false 3 [.one (.bool b14)] else cV false [.bool] (Fiwithin [.one (.int x4), .one (.int 0), .one (.int (W (x5 - 1)))]) fun b15 => fr false 3 [.one (.bool b15)] else cV false [.bool] (FiInstr_usesS [.agg [.int x1, .int x2, .int x3, .int x4]]) fun b16 => bif !b16 then bif x3 != 0 then fr false 3 [.one (.bool false)] else cV false [.bool] (FiInstr_usesN [.agg [.int x1, .int x2, .int x3, .int x4]]) fun b17 => bif !b17 then fr false 3 [.one (.bool (x4 == 0))] else bif x1 == 0 then cV false [.bool] (Fiwithin [.one (.int x4), .one (.int (-1000)), .one (.int 1000)]) fun b18 => fr false 3 [.one (.bool b18)] else bif x1 == 6 then cV false [.bool] (Fiwithin [.one (.int x4), .one (.int 0), .one (.int x6)]) fun b19 => fr false 3 [.one (.bool b19)] else cV false [.bool] (Fiwithin [.one (.int x4), .one (.int 0), .one (.int (W (x5 - 1)))]) fun b20 => fr false 3 [.one (.bool b20)] else cV false [.bool] (FiInstr_usesN [.agg [.int x1, .int x2, .int x3, .int x4]]) fun b21 => bif !b21 then fr false 3 [.one (.bool (x4 == 0))] else bif x1 == 0 then cV false [.bool] (Fiwithin [.one (.int x4), .one (.int (-1000)), .one (.int 1000)]) fun b22 => fr false 3 [.one (.bool b22)] else bif x1 == 6 then cV false [.bool] (Fiwithin [.one (.int x4), .one (.int 0), .one (.int x6)]) fun b23 => fr false 3 [.one (.bool b23)] else cV false [.bool] (Fiwithin [.one (.int x4), .one (.int 0), .one (.int (W (x5 - 1)))]) fun b24 => fr false 3 [.one (.bool b24)] := Fx.eq (by kernel_rfl)
theorem okiInstrOk : CalleeOk Go.Proofs.Tryz.prog 93 SiInstrOk := Fx.ok (F := QiInstrOk) follows (envTy_mk tys_m1_eq) (envSpec_of (specsOk_cons okiisRegister (specsOk_cons okiInstr_usesR (specsOk_cons okiInstr_usesS (specsOk_cons okiInstr_usesN (specsOk_cons okiwithin specsOk_nil)))))) Go.Proofs.Tryz.func93 (by kernel_rfl) (by kernel_rfl) (by rw [show subs QiInstrOk.code = [] by kernel_rfl]; trivial) (by kernel_rfl) (by kernel_rfl) rfl
theorem FiInstrOk_at (i : Instr) (cells size : Int) : FiInstrOk [S.agg (encInstr i), S.one (C.int cells), S.one (C.int size)] = some (S.one (C.bool (instrOk i cells size)), [S.one C.unk, S.one C.unk, S.one C.unk]) := by
  simp only [miInstrOk, instrOk, Fiwithin_at, FiisRegister_at, FiInstr_usesR_at, FiInstr_usesS_at, FiInstr_usesN_at]
  cases h1 : inB cells 1 16 <;> simp
  have hw : W (cells - 1) = cells - 1 := by have := inB_iff.1 h1; exact W_eq (by omega) (by omega)
  rw [hw]
  cases inB size 0 16 <;> simp
  cases inB i.op 0 8 <;> simp
  cases inB i.r 0 3 <;> simp
  cases inB i.s 0 3 <;> simp
  simp only [bne]
  cases useR i.op <;> cases useS i.op <;> cases useN i.op <;> cases (i.r == 0) <;> cases (i.s == 0) <;> cases (i.op == 0) <;> cases (i.op == 6) <;> simp
/-! iProgOk_1: loop.example/g00712/impl.ProgOk$1 -/
noncomputable def QiProgOk_1 : Fx := ⟨Go.Proofs.Tryz.f92, [.ro, .ro, .ro], false, mkEnv tys_m1 [(93, SiInstrOk)] [], fun _ => .stop, []⟩
noncomputable def FiProgOk_1 : List S → Option Res := veil QiProgOk_1.run
noncomputable def SiProgOk_1 : Spec := ⟨[.ro, .ro, .ro], false, FiProgOk_1⟩
theorem miProgOk_1 (x1 : Int) (x2 : Int) (x3 : Int) (x4 : Int) (x5 : Int) (x6 : List (List C)) (x7 : List (List C)) : FiProgOk_1 [.agg [.int x1, .int x2, .int x3, .int x4], .one (.rp [.int x5, .sl false none 1 x6]), .one (.rp [.sl false none 4 x7])] = cV false [.bool] (FiInstrOk [.agg [.int x1, .int x2, .int x3, .int x4], .one (.int x5), .one (.int (x7.length : Int))]) fun b1 => fr false 3 [.one (.bool (!b1))] := Fx.eq (by kernel_rfl)
theorem okiProgOk_1 : CalleeOk Go.Proofs.Tryz.prog 92 SiProgOk_1 := Fx.ok (F := QiProgOk_1) follows (envTy_mk tys_m1_eq) (envSpec_of (specsOk_cons okiInstrOk specsOk_nil)) Go.Proofs.Tryz.func92 (by kernel_rfl) (by kernel_rfl) (by rw [show subs QiProgOk_1.code = [] by kernel_rfl]; trivial) (by kernel_rfl) (by kernel_rfl) rfl
theorem FiProgOk_1_at (i : Instr) (cells : Int) (es : List (List C)) (c : List (List C)) : FiProgOk_1 [S.agg (encInstr i), S.one (C.rp [C.int cells, C.sl false none 1 es]), S.one (C.rp [C.sl false none 4 c])] = some (S.one (C.bool (!instrOk i cells c.length)), [S.one C.unk, S.one C.unk, S.one C.unk]) := by
  simp [miProgOk_1, FiInstrOk_at]
/-! slicesIndexFunc_iInstr_iProgOk_1: slices.IndexFunc[[]loop.example/g00712/impl.Instr,loop.example/g00712/impl.Instr] -/
@[reducible] def hslicesIndexFunc_iInstr_iProgOk_1_2 : Sh := ⟨[.one (.o (.sl false 4)), .one (.fn 92 [.rp, .rp]), .one (.o (.i .i64)), .one (.o (.i .i64))], []⟩
@[reducible] def xslicesIndexFunc_iInstr_iProgOk_1_2 : List (Ex × Sh) := [(.ret, ⟨[.one (.o (.i .i64))], []⟩), (.exit 0, ⟨[.one (.o .u)], []⟩)]
noncomputable def RslicesIndexFunc_iInstr_iProgOk_1_2 : KC xslicesIndexFunc_iInstr_iProgOk_1_2 (hslicesIndexFunc_iInstr_iProgOk_1_2.K → hslicesIndexFunc_iInstr_iProgOk_1_2.K) := fun k0 k1 nx v1 v2 v3 v4 v5 v6 => bif decide (v6 < v5) then ix v6 v2 ((v2[Int.toNat v6]?).bind fun w1 => tRo [.int .i64, .int .i64, .int .i64, .int .i64] w1 fun n1 n2 n3 n4 => cV false [.bool] (FiProgOk_1 [.agg [.int n1, .int n2, .int n3, .int n4], .one (.rp v3), .one (.rp v4)]) fun b1 => bif b1 then k0 v6 else nx v1 v2 v3 v4 v5 (W (v6 + 1))) else k1
noncomputable def LslicesIndexFunc_iInstr_iProgOk_1_2 : Lp := ⟨2, [0, 1, 7, 8], [4], 0, 19, hslicesIndexFunc_iInstr_iProgOk_1_2, xslicesIndexFunc_iInstr_iProgOk_1_2, RslicesIndexFunc_iInstr_iProgOk_1_2⟩
noncomputable def QslicesIndexFunc_iInstr_iProgOk_1 : Fx := ⟨Go.Proofs.Tryz.f103, [.ro, .ro], false, mkEnv tys_m1 [(92, SiProgOk_1)] [], fun _ => .stop, [LslicesIndexFunc_iInstr_iProgOk_1_2]⟩
noncomputable def FslicesIndexFunc_iInstr_iProgOk_1 : List S → Option Res := veil QslicesIndexFunc_iInstr_iProgOk_1.run
noncomputable def SslicesIndexFunc_iInstr_iProgOk_1 : Spec := ⟨[.ro, .ro], false, FslicesIndexFunc_iInstr_iProgOk_1⟩
theorem mslicesIndexFunc_iInstr_iProgOk_1 (x1 : Option Bool) (x2 : List (List C)) (x3 : Int) (x4 : List (List C)) (x5 : List (List C)) : FslicesIndexFunc_iInstr_iProgOk_1 [.one (.sl false x1 4 x2), .one (.fn 92 [.rp [.int x3, .sl false none 1 x4], .rp [.sl false none 4 x5]])] = iterC (RslicesIndexFunc_iInstr_iProgOk_1_2 (fun y1 => fr false 2 [.one (.int y1)]) (fr false 2 [.one (.int (-1))])) FUEL x1 x2 [.int x3, .sl false none 1 x4] [.sl false none 4 x5] (x2.length : Int) 0 := Fx.eq (by kernel_rfl)
theorem stslicesIndexFunc_iInstr_iProgOk_1_2 : LslicesIndexFunc_iInstr_iProgOk_1_2.Step QslicesIndexFunc_iInstr_iProgOk_1.E QslicesIndexFunc_iInstr_iProgOk_1.dr QslicesIndexFunc_iInstr_iProgOk_1.lp ((findLoop 2 QslicesIndexFunc_iInstr_iProgOk_1.code).getD .skip) := fun k nx v => by kernel_rfl
theorem okslicesIndexFunc_iInstr_iProgOk_1 : CalleeOk Go.Proofs.Tryz.prog 103 SslicesIndexFunc_iInstr_iProgOk_1 := Fx.ok (F := QslicesIndexFunc_iInstr_iProgOk_1) follows (envTy_mk tys_m1_eq) (envSpec_of (specsOk_cons okiProgOk_1 specsOk_nil)) Go.Proofs.Tryz.func103 (by kernel_rfl) (by kernel_rfl) (by
  rw [show subs QslicesIndexFunc_iInstr_iProgOk_1.code = [(findLoop 2 QslicesIndexFunc_iInstr_iProgOk_1.code).getD .skip] by kernel_rfl]
  exact ⟨stepAt_some (by kernel_rfl) stslicesIndexFunc_iInstr_iProgOk_1_2, trivial⟩) (by kernel_rfl) (by kernel_rfl) rfl
theorem FslicesIndexFunc_iInstr_iProgOk_1_at (nl : Option Bool) (l : List Instr) (cells : Int) (es : List (List C)) (c : List (List C)) (h : smallL l) : FslicesIndexFunc_iInstr_iProgOk_1 [S.one (C.sl false nl 4 (l.map encInstr)), S.one (C.fn 92 [C.rp [C.int cells, C.sl false none 1 es], C.rp [C.sl false none 4 c]])] = some (S.one (C.int (bif l.any (fun i => !instrOk i cells c.length) then (l.findIdx (fun i => !instrOk i cells c.length) : Int) else -1)), [S.one C.unk, S.one C.unk]) := by
  rw [mslicesIndexFunc_iInstr_iProgOk_1]
  refine (iter_find (h := hslicesIndexFunc_iInstr_iProgOk_1_2) l (fun i f => f nl (l.map encInstr) [C.int cells, C.sl false none 1 es] [C.sl false none 4 c] ((l.map encInstr).length : Int) (i : Int)) (fun i => !instrOk i cells c.length) (fun i => fr false 2 [.one (.int i)]) (fr false 2 [.one (.int (-1))]) (by omega) ?_ ?_).trans ?_
  · intro nx; simp [RslicesIndexFunc_iInstr_iProgOk_1_2]
  · intro nx i hi hW; simp [RslicesIndexFunc_iInstr_iProgOk_1_2, hi, hW, FiProgOk_1_at]
  · cases l.any (fun i => !instrOk i cells c.length) <;> simp
/-! slicesContainsFunc_iInstr_iProgOk_1: slices.ContainsFunc[[]loop.example/g00712/impl.Instr,loop.example/g00712/impl.Instr] -/
noncomputable def QslicesContainsFunc_iInstr_iProgOk_1 : Fx := ⟨Go.Proofs.Tryz.f91, [.ro, .ro], false, mkEnv tys_m1 [(103, SslicesIndexFunc_iInstr_iProgOk_1)] [], fun _ => .stop, []⟩
noncomputable def FslicesContainsFunc_iInstr_iProgOk_1 : List S → Option Res := veil QslicesContainsFunc_iInstr_iProgOk_1.run
noncomputable def SslicesContainsFunc_iInstr_iProgOk_1 : Spec := ⟨[.ro, .ro], false, FslicesContainsFunc_iInstr_iProgOk_1⟩
theorem mslicesContainsFunc_iInstr_iProgOk_1 (x1 : Option Bool) (x2 : List (List C)) (x3 : Int) (x4 : List (List C)) (x5 : List (List C)) : FslicesContainsFunc_iInstr_iProgOk_1 [.one (.sl false x1 4 x2), .one (.fn 92 [.rp [.int x3, .sl false none 1 x4], .rp [.sl false none 4 x5]])] = cV false [.int .i64] (FslicesIndexFunc_iInstr_iProgOk_1 [.one (.sl false x1 4 x2), .one (.fn 92 [.rp [.int x3, .sl false none 1 x4], .rp [.sl false none 4 x5]])]) fun n1 => fr false 2 [.one (.bool (decide (n1 ≥ 0)))] := Fx.eq (by kernel_rfl)
theorem okslicesContainsFunc_iInstr_iProgOk_1 : CalleeOk Go.Proofs.Tryz.prog 91 SslicesContainsFunc_iInstr_iProgOk_1 := Fx.ok (F := QslicesContainsFunc_iInstr_iProgOk_1) follows (envTy_mk tys_m1_eq) (envSpec_of (specsOk_cons okslicesIndexFunc_iInstr_iProgOk_1 specsOk_nil)) Go.Proofs.Tryz.func91 (by kernel_rfl) (by kernel_rfl) (by rw [show subs QslicesContainsFunc_iInstr_iProgOk_1.code = [] by kernel_rfl]; trivial) (by kernel_rfl) (by kernel_rfl) rfl
theorem FslicesContainsFunc_iInstr_iProgOk_1_at (nl : Option Bool) (l : List Instr) (cells : Int) (es : List (List C)) (c : List (List C)) (h : smallL l) : FslicesContainsFunc_iInstr_iProgOk_1 [S.one (C.sl false nl 4 (l.map encInstr)), S.one (C.fn 92 [C.rp [C.int cells, C.sl false none 1 es], C.rp [C.sl false none 4 c]])] = some (S.one (C.bool (l.any fun i => !instrOk i cells c.length)), [S.one C.unk, S.one C.unk]) := by
  rw [mslicesContainsFunc_iInstr_iProgOk_1, FslicesIndexFunc_iInstr_iProgOk_1_at _ _ _ _ _ h]
  cases l.any (fun i => !instrOk i cells c.length) <;> simp
/-! iProgOk: loop.example/g00712/impl.ProgOk -/
@[reducible] def hiProgOk_4 : Sh := ⟨[.one (.o (.pl 0 0 [])), .one (.o (.sl false 1)), .one (.o (.i .i64)), .one (.o (.i .i64))], [(false, [.o (.i .i64), .o (.sl false 1)])]⟩
@[reducible] def xiProgOk_4 : List (Ex × Sh) := [(.ret, ⟨[.one (.o .b)], [(false, [.o (.i .i64), .o (.sl false 1)]), (false, [.o (.sl false 4)])]⟩), (.exit 0, ⟨[.one (.o .u)], [(false, [.o (.i .i64), .o (.sl false 1)])]⟩)]
noncomputable def RiProgOk_4 : KC xiProgOk_4 (hiProgOk_4.K → hiProgOk_4.K) := fun k0 k1 nx v1 v2 v3 v4 v5 v6 v7 => bif decide (v4 < v3) then ix v4 v2 ((v2[Int.toNat v4]?).bind fun w1 => tRo [.sl 4] w1 fun _ l1 => bif decide ((l1.length : Int) > 16) then k0 false v5 v6 v7 none l1 else cV false [.bool] (FslicesContainsFunc_iInstr_iProgOk_1 [.one (.sl false none 4 l1), .one (.fn 92 [.rp [.int v5, .sl false none 1 (freezeRows v7)], .rp [.sl false none 4 (freezeRows l1)]])]) fun b3 => bif b3 then k0 false v5 v6 v7 none l1 else nx v1 v2 v3 (W (v4 + 1)) v5 v6 v7) else k1 v5 v6 v7
noncomputable def LiProgOk_4 : Lp := ⟨4, [1, 17, 18, 19], [2], 1, 32, hiProgOk_4, xiProgOk_4, RiProgOk_4⟩
noncomputable def QiProgOk : Fx := ⟨Go.Proofs.Tryz.f75, [.ro], false, mkEnv tys_m1 [(91, SslicesContainsFunc_iInstr_iProgOk_1), (77, Siwithin)] [], fun _ => .stop, [LiProgOk_4]⟩
noncomputable def FiProgOk : List S → Option Res := veil QiProgOk.run
noncomputable def SiProgOk : Spec := ⟨[.ro], false, FiProgOk⟩
theorem miProgOk (x1 : Int) (x2 : List (List C)) : FiProgOk [.agg [.int x1, .sl false none 1 x2]] = cV false [.bool] (Fiwithin [.one (.int x1), .one (.int 1), .one (.int 16)]) fun b1 => bif !b1 then fr false 1 [.one (.bool false)] else cV false [.bool] (Fiwithin [.one (.int (x2.length : Int)), .one (.int 1), .one (.int 3)]) fun b2 => bif !b2 then fr false 1 [.one (.bool false)] else iterC (RiProgOk_4 (fun y1 y2 y3 y4 y5 y6 => fr false 1 [.one (.bool y1)]) (fun y7 y8 y9 => fr false 1 [.one (.bool true)])) FUEL none x2 (x2.length : Int) 0 x1 none x2 := Fx.eq (by kernel_rfl)
theorem stiProgOk_4 : LiProgOk_4.Step QiProgOk.E QiProgOk.dr QiProgOk.lp ((findLoop 4 QiProgOk.code).getD .skip) := fun k nx v => by kernel_rfl
theorem okiProgOk : CalleeOk Go.Proofs.Tryz.prog 75 SiProgOk := Fx.ok (F := QiProgOk) follows (envTy_mk tys_m1_eq) (envSpec_of (specsOk_cons okslicesContainsFunc_iInstr_iProgOk_1 (specsOk_cons okiwithin specsOk_nil))) Go.Proofs.Tryz.func75 (by kernel_rfl) (by kernel_rfl) (by
  rw [show subs QiProgOk.code = [(findLoop 4 QiProgOk.code).getD .skip] by kernel_rfl]
  exact ⟨stepAt_some (by kernel_rfl) stiProgOk_4, trivial⟩) (by kernel_rfl) (by kernel_rfl) rfl
theorem FiProgOk_at (p : Prog) (h : bndL p.codes) : FiProgOk [S.agg (encProg false p)] = some (S.one (C.bool (progOk p)), [S.one C.unk]) := by
  obtain ⟨cells, codes⟩ := p
  simp only [miProgOk, progOk, Fiwithin_at, List.length_map]
  cases h1 : inB cells 1 16 <;> simp
  cases h2 : inB codes.length 1 3 <;> simp
  refine (iter_all (h := hiProgOk_4) codes (fun i f => f none (codes.map (encCode false)) (codes.length : Int) (i : Int) cells none (codes.map (encCode false))) (codeOk cells) (fr false 1 [.one (.bool true)]) (fr false 1 [.one (.bool false)]) (by have := h.1; simp only at this; omega) ?_ ?_).trans ?_
  · intro nx; simp [RiProgOk_4]
  · intro nx i hi hW
    have hb := h.2 _ (List.getElem_mem hi)
    by_cases hc : codes[i].length ≤ 16
    · have hc' : ¬ (codes[i].length : Int) > 16 := by omega
      simp [RiProgOk_4, hi, hW, hc', hc, codeOk, FslicesContainsFunc_iInstr_iProgOk_1_at none codes[i] cells _ _ hb]
      rw [← any_not]
      cases (codes[i].any fun x => !instrOk x cells codes[i].length) <;> simp
    · have hc' : (codes[i].length : Int) > 16 := by omega
      simp [RiProgOk_4, hi, hW, hc', hc, codeOk]
  · cases codes.all (codeOk cells) <;> simp
end Go.Proofs.Gh.Gm
set_option linter.unusedVariables false
set_option linter.unusedSimpArgs false
set_option maxRecDepth 100000
set_option maxHeartbeats 2000000
namespace Go.Proofs.Gh.Gm
def tys_m2 : List (Nat × TI) := [(3, ⟨false, 8, [.int .i64], [.int 0], .scalar, false⟩),
  (4, ⟨false, 1, [.bool], [.bool false], .scalar, false⟩),
  (25, ⟨false, 24, [.sl 1], [.sl true (some true) 1 []], .slice 3, false⟩),
  (35, ⟨true, 24, [.sl 1], [.sl true (some true) 1 []], .struct [(0, 1, false)], false⟩),
  (36, ⟨false, 24, [.sl 3], [.sl true (some true) 3 []], .slice 75, false⟩),
  (38, ⟨true, 48, [.sl 1, .sl 3], [.sl true (some true) 1 [], .sl true (some true) 3 []], .struct [(0, 1, true), (1, 1, false)], false⟩),
  (41, ⟨false, 24, [.sl 1], [.sl true (some true) 1 []], .slice 76, false⟩),
  (43, ⟨true, 32, [.int .i64, .sl 1], [.int 0, .sl true (some true) 1 []], .struct [(0, 1, false), (1, 1, false)], false⟩),
  (46, ⟨true, 16, [.int .i64, .bool], [.int 0, .bool false], .struct [(0, 1, false), (1, 1, false)], true⟩),
  (73, ⟨false, 24, [.sl 2], [.sl true (some true) 2 []], .slice 90, false⟩),
  (75, ⟨true, 56, [.int .i64, .sl 1, .sl 2], [.int 0, .sl true (some true) 1 [], .sl true (some true) 2 []], .struct [(0, 1, false), (1, 1, false), (2, 1, false)], false⟩),
  (76, ⟨false, 24, [.sl 4], [.sl true (some true) 4 []], .slice 92, false⟩),
  (90, ⟨true, 16, [.int .i64, .int .i64], [.int 0, .int 0], .struct [(0, 1, false), (1, 1, false)], true⟩),
  (92, ⟨true, 32, [.int .i64, .int .i64, .int .i64, .int .i64], [.int 0, .int 0, .int 0, .int 0], .struct [(0, 1, false), (1, 1, false), (2, 1, false), (3, 1, false)], true⟩),
  (124, ⟨false, 8, [.other], [.v Value.nilFunc], .scalar, false⟩)]
theorem tys_m2_eq : tys_m2.map (fun x => tiOf Go.Proofs.Tryz.prog x.1 x.2.cks) = tys_m2.map fun x => some x.2 := by kernel_rfl
/-! iisMachine_1: loop.example/g00712/impl.isMachine$1 -/
noncomputable def QiisMachine_1 : Fx := ⟨Go.Proofs.Tryz.f98, [.ro, .ro], false, mkEnv tys_m2 [] [], fun _ => .stop, []⟩
noncomputable def FiisMachine_1 : List S → Option Res := veil QiisMachine_1.run
noncomputable def SiisMachine_1 : Spec := ⟨[.ro, .ro], false, FiisMachine_1⟩
theorem miisMachine_1 (x1 : Int) (x2 : Int) (x3 : Int) (x4 : List (List C)) : FiisMachine_1 [.agg [.int x1, .int x2], .one (.rp [.int x3, .sl false none 1 x4])] = fr false 2 [.one (.bool (decide (x1 ≥ x3)))] := Fx.eq (by kernel_rfl)
theorem okiisMachine_1 : CalleeOk Go.Proofs.Tryz.prog 98 SiisMachine_1 := Fx.ok (F := QiisMachine_1) follows (envTy_mk tys_m2_eq) (envSpec_of (specsOk_nil)) Go.Proofs.Tryz.func98 (by kernel_rfl) (by kernel_rfl) (by rw [show subs QiisMachine_1.code = [] by kernel_rfl]; trivial) (by kernel_rfl) (by kernel_rfl) rfl
theorem FiisMachine_1_at (s : Slot) (cells : Int) (es : List (List C)) : FiisMachine_1 [S.agg (encSlot s), S.one (C.rp [C.int cells, C.sl false none 1 es])] = some (S.one (C.bool (decide (s.a ≥ cells))), [S.one C.unk, S.one C.unk]) := by
  simp [miisMachine_1]
/-! slicesIndexFunc_iSlot_iisMachine_1: slices.IndexFunc[[]loop.example/g00712/impl.Slot,loop.example/g00712/impl.Slot] -/
@[reducible] def hslicesIndexFunc_iSlot_iisMachine_1_2 : Sh := ⟨[.one (.o (.sl false 2)), .one (.fn 98 [.rp]), .one (.o (.i .i64)), .one (.o (.i .i64))], []⟩
@[reducible] def xslicesIndexFunc_iSlot_iisMachine_1_2 : List (Ex × Sh) := [(.ret, ⟨[.one (.o (.i .i64))], []⟩), (.exit 0, ⟨[.one (.o .u)], []⟩)]
noncomputable def RslicesIndexFunc_iSlot_iisMachine_1_2 : KC xslicesIndexFunc_iSlot_iisMachine_1_2 (hslicesIndexFunc_iSlot_iisMachine_1_2.K → hslicesIndexFunc_iSlot_iisMachine_1_2.K) := fun k0 k1 nx v1 v2 v3 v4 v5 => bif decide (v5 < v4) then ix v5 v2 ((v2[Int.toNat v5]?).bind fun w1 => tRo [.int .i64, .int .i64] w1 fun n1 n2 => cV false [.bool] (FiisMachine_1 [.agg [.int n1, .int n2], .one (.rp v3)]) fun b1 => bif b1 then k0 v5 else nx v1 v2 v3 v4 (W (v5 + 1))) else k1
noncomputable def LslicesIndexFunc_iSlot_iisMachine_1_2 : Lp := ⟨2, [0, 1, 7, 8], [4], 0, 19, hslicesIndexFunc_iSlot_iisMachine_1_2, xslicesIndexFunc_iSlot_iisMachine_1_2, RslicesIndexFunc_iSlot_iisMachine_1_2⟩
noncomputable def QslicesIndexFunc_iSlot_iisMachine_1 : Fx := ⟨Go.Proofs.Tryz.f112, [.ro, .ro], false, mkEnv tys_m2 [(98, SiisMachine_1)] [], fun _ => .stop, [LslicesIndexFunc_iSlot_iisMachine_1_2]⟩
noncomputable def FslicesIndexFunc_iSlot_iisMachine_1 : List S → Option Res := veil QslicesIndexFunc_iSlot_iisMachine_1.run
noncomputable def SslicesIndexFunc_iSlot_iisMachine_1 : Spec := ⟨[.ro, .ro], false, FslicesIndexFunc_iSlot_iisMachine_1⟩
theorem mslicesIndexFunc_iSlot_iisMachine_1 (x1 : Option Bool) (x2 : List (List C)) (x3 : Int) (x4 : List (List C)) : FslicesIndexFunc_iSlot_iisMachine_1 [.one (.sl false x1 2 x2), .one (.fn 98 [.rp [.int x3, .sl false none 1 x4]])] = iterC (RslicesIndexFunc_iSlot_iisMachine_1_2 (fun y1 => fr false 2 [.one (.int y1)]) (fr false 2 [.one (.int (-1))])) FUEL x1 x2 [.int x3, .sl false none 1 x4] (x2.length : Int) 0 := Fx.eq (by kernel_rfl)
theorem stslicesIndexFunc_iSlot_iisMachine_1_2 : LslicesIndexFunc_iSlot_iisMachine_1_2.Step QslicesIndexFunc_iSlot_iisMachine_1.E QslicesIndexFunc_iSlot_iisMachine_1.dr QslicesIndexFunc_iSlot_iisMachine_1.lp ((findLoop 2 QslicesIndexFunc_iSlot_iisMachine_1.code).getD .skip) := fun k nx v => by kernel_rfl
theorem okslicesIndexFunc_iSlot_iisMachine_1 : CalleeOk Go.Proofs.Tryz.prog 112 SslicesIndexFunc_iSlot_iisMachine_1 := Fx.ok (F := QslicesIndexFunc_iSlot_iisMachine_1) follows (envTy_mk tys_m2_eq) (envSpec_of (specsOk_cons okiisMachine_1 specsOk_nil)) Go.Proofs.Tryz.func112 (by kernel_rfl) (by kernel_rfl) (by
  rw [show subs QslicesIndexFunc_iSlot_iisMachine_1.code = [(findLoop 2 QslicesIndexFunc_iSlot_iisMachine_1.code).getD .skip] by kernel_rfl]
  exact ⟨stepAt_some (by kernel_rfl) stslicesIndexFunc_iSlot_iisMachine_1_2, trivial⟩) (by kernel_rfl) (by kernel_rfl) rfl
theorem FslicesIndexFunc_iSlot_iisMachine_1_at (nl : Option Bool) (l : List Slot) (cells : Int) (es : List (List C)) (h : smallL l) : FslicesIndexFunc_iSlot_iisMachine_1 [S.one (C.sl false nl 2 (l.map encSlot)), S.one (C.fn 98 [C.rp [C.int cells, C.sl false none 1 es]])] = some (S.one (C.int (bif l.any (fun s => decide (s.a ≥ cells)) then (l.findIdx (fun s => decide (s.a ≥ cells)) : Int) else -1)), [S.one C.unk, S.one C.unk]) := by
  rw [mslicesIndexFunc_iSlot_iisMachine_1]
  refine (iter_find (h := hslicesIndexFunc_iSlot_iisMachine_1_2) l (fun i f => f nl (l.map encSlot) [C.int cells, C.sl false none 1 es] ((l.map encSlot).length : Int) (i : Int)) (fun s => decide (s.a ≥ cells)) (fun i => fr false 2 [.one (.int i)]) (fr false 2 [.one (.int (-1))]) (by omega) ?_ ?_).trans ?_
  · intro nx; simp [RslicesIndexFunc_iSlot_iisMachine_1_2]
  · intro nx i hi hW; simp [RslicesIndexFunc_iSlot_iisMachine_1_2, hi, hW, FiisMachine_1_at]
  · cases l.any (fun s => decide (s.a ≥ cells)) <;> simp
/-! slicesContainsFunc_iSlot_iisMachine_1: slices.ContainsFunc[[]loop.example/g00712/impl.Slot,loop.example/g00712/impl.Slot] -/
noncomputable def QslicesContainsFunc_iSlot_iisMachine_1 : Fx := ⟨Go.Proofs.Tryz.f97, [.ro, .ro], false, mkEnv tys_m2 [(112, SslicesIndexFunc_iSlot_iisMachine_1)] [], fun _ => .stop, []⟩
noncomputable def FslicesContainsFunc_iSlot_iisMachine_1 : List S → Option Res := veil QslicesContainsFunc_iSlot_iisMachine_1.run
noncomputable def SslicesContainsFunc_iSlot_iisMachine_1 : Spec := ⟨[.ro, .ro], false, FslicesContainsFunc_iSlot_iisMachine_1⟩
theorem mslicesContainsFunc_iSlot_iisMachine_1 (x1 : Option Bool) (x2 : List (List C)) (x3 : Int) (x4 : List (List C)) : FslicesContainsFunc_iSlot_iisMachine_1 [.one (.sl false x1 2 x2), .one (.fn 98 [.rp [.int x3, .sl false none 1 x4]])] = cV false [.int .i64] (FslicesIndexFunc_iSlot_iisMachine_1 [.one (.sl false x1 2 x2), .one (.fn 98 [.rp [.int x3, .sl false none 1 x4]])]) fun n1 => fr false 2 [.one (.bool (decide (n1 ≥ 0)))] := Fx.eq (by kernel_rfl)
theorem okslicesContainsFunc_iSlot_iisMachine_1 : CalleeOk Go.Proofs.Tryz.prog 97 SslicesContainsFunc_iSlot_iisMachine_1 := Fx.ok (F := QslicesContainsFunc_iSlot_iisMachine_1) follows (envTy_mk tys_m2_eq) (envSpec_of (specsOk_cons okslicesIndexFunc_iSlot_iisMachine_1 specsOk_nil)) Go.Proofs.Tryz.func97 (by kernel_rfl) (by kernel_rfl) (by rw [show subs QslicesContainsFunc_iSlot_iisMachine_1.code = [] by kernel_rfl]; trivial) (by kernel_rfl) (by kernel_rfl) rfl
theorem FslicesContainsFunc_iSlot_iisMachine_1_at (nl : Option Bool) (l : List Slot) (cells : Int) (es : List (List C)) (h : smallL l) : FslicesContainsFunc_iSlot_iisMachine_1 [S.one (C.sl false nl 2 (l.map encSlot)), S.one (C.fn 98 [C.rp [C.int cells, C.sl false none 1 es]])] = some (S.one (C.bool (l.any fun s => decide (s.a ≥ cells))), [S.one C.unk, S.one C.unk]) := by
  rw [mslicesContainsFunc_iSlot_iisMachine_1, FslicesIndexFunc_iSlot_iisMachine_1_at _ _ _ _ h]
  cases l.any (fun s => decide (s.a ≥ cells)) <;> simp
theorem any_ge {l : List Slot} {cells : Int} : (!l.any fun s => decide (s.a ≥ cells)) = l.all fun s => decide (s.a < cells) := by
  rw [← any_not]
  congr 2
  funext s
  by_cases h : s.a < cells
  · simp [h]
  · simp [h]; omega
/-! iisMachine: loop.example/g00712/impl.isMachine -/
@[reducible] def hiisMachine_4 : Sh := ⟨[.one (.o (.pl 0 0 [])), .one (.o (.sl false 3)), .one (.o (.i .i64)), .one (.o (.i .i64))], [(false, [.o (.i .i64), .o (.sl false 1)]), (false, [.o (.sl false 1), .o (.sl false 3)])]⟩
@[reducible] def xiisMachine_4 : List (Ex × Sh) := [(.ret, ⟨[.one (.o .b)], [(false, [.o (.i .i64), .o (.sl false 1)]), (false, [.o (.sl false 1), .o (.sl false 3)]), (false, [.o (.i .i64), .o (.sl false 1), .o (.sl false 2)])]⟩), (.exit 0, ⟨[.one (.o .u)], [(false, [.o (.i .i64), .o (.sl false 1)]), (false, [.o (.sl false 1), .o (.sl false 3)])]⟩)]
noncomputable def RiisMachine_4 : KC xiisMachine_4 (hiisMachine_4.K → hiisMachine_4.K) := fun k0 k1 nx v1 v2 v3 v4 v5 v6 v7 v8 v9 v10 v11 => bif decide (v4 < v3) then ix v4 v2 ((v2[Int.toNat v4]?).bind fun w1 => tRo [.int .i64, .sl 1, .sl 2] w1 fun n1 _ l1 _ l2 => ix v4 v7 ((v7[Int.toNat v4]?).bind fun w2 => tRo [.sl 4] w2 fun _ l3 => cV false [.bool] (Fiwithin [.one (.int n1), .one (.int 0), .one (.int (l3.length : Int))]) fun b2 => bif !b2 then k0 false v5 v6 v7 v8 v9 v10 v11 n1 none l1 none l2 else bif (l1.length : Int) != 4 then k0 false v5 v6 v7 v8 v9 v10 v11 n1 none l1 none l2 else cV false [.bool] (FiareValues [.one (.sl false none 1 l1)]) fun b3 => bif !b3 then k0 false v5 v6 v7 v8 v9 v10 v11 n1 none l1 none l2 else cV false [.bool] (FiBufOk [.one (.sl false none 2 l2)]) fun b4 => bif !b4 then k0 false v5 v6 v7 v8 v9 v10 v11 n1 none l1 none l2 else cV false [.bool] (FslicesContainsFunc_iSlot_iisMachine_1 [.one (.sl false none 2 l2), .one (.fn 98 [.rp [.int v5, .sl false none 1 (freezeRows v7)]])]) fun b5 => bif b5 then k0 false v5 v6 v7 v8 v9 v10 v11 n1 none l1 none l2 else nx v1 v2 v3 (W (v4 + 1)) v5 v6 v7 v8 v9 v10 v11)) else k1 v5 v6 v7 v8 v9 v10 v11
noncomputable def LiisMachine_4 : Lp := ⟨4, [2, 30, 31, 32], [4], 2, 70, hiisMachine_4, xiisMachine_4, RiisMachine_4⟩
noncomputable def QiisMachine : Fx := ⟨Go.Proofs.Tryz.f76, [.ro, .ro], false, mkEnv tys_m2 [(97, SslicesContainsFunc_iSlot_iisMachine_1), (77, Siwithin), (94, SiMemOk), (95, SiareValues), (96, SiBufOk)] [], fun id => bif Nat.beq id 6 then .sq [0, 1, 2, 3, 4, 5, 6, 7, 8, 9, 10, 11, 12, 13, 14, 15, 16, 17, 18, 19, 20, 21, 22, 23, 24, 25, 26, 27] .stop else .stop, [LiisMachine_4]⟩
noncomputable def FiisMachine : List S → Option Res := veil QiisMachine.run
noncomputable def SiisMachine : Spec := ⟨[.ro, .ro], false, FiisMachine⟩
theorem miisMachine (x1 : Int) (x2 : List (List C)) (x3 : List (List C)) (x4 : List (List C)) : FiisMachine [.agg [.int x1, .sl false none 1 x2], .agg [.sl false none 1 x3, .sl false none 3 x4]] = cV false [.bool] (FiMemOk [.agg [.sl false none 1 x3]]) fun b1 => bif !b1 then fr false 2 [.one (.bool false)] else bif (x3.length : Int) != x1 then fr false 2 [.one (.bool false)] else bif (x4.length : Int) != (x2.length : Int) then fr false 2 [.one (.bool false)] else iterC (RiisMachine_4 (fun y1 y2 y3 y4 y5 y6 y7 y8 y9 y10 y11 y12 y13 => fr false 2 [.one (.bool y1)]) (fun y14 y15 y16 y17 y18 y19 y20 => fr false 2 [.one (.bool true)])) FUEL none x4 (x4.length : Int) 0 x1 none x2 none x3 none x4 := Fx.eq (by kernel_rfl)
theorem stiisMachine_4 : LiisMachine_4.Step QiisMachine.E QiisMachine.dr QiisMachine.lp ((findLoop 4 QiisMachine.code).getD .skip) := fun k nx v => by kernel_rfl
theorem okiisMachine : CalleeOk Go.Proofs.Tryz.prog 76 SiisMachine := Fx.ok (F := QiisMachine) follows (envTy_mk tys_m2_eq) (envSpec_of (specsOk_cons okslicesContainsFunc_iSlot_iisMachine_1 (specsOk_cons okiwithin (specsOk_cons okiMemOk (specsOk_cons okiareValues (specsOk_cons okiBufOk specsOk_nil)))))) Go.Proofs.Tryz.func76 (by kernel_rfl) (by kernel_rfl) (by
  rw [show subs QiisMachine.code = [(findLoop 4 QiisMachine.code).getD .skip] by kernel_rfl]
  exact ⟨stepAt_some (by kernel_rfl) stiisMachine_4, trivial⟩) (by kernel_rfl) (by kernel_rfl) rfl
theorem FiisMachine_at (p : Prog) (m : Machine) (h : bndL p.codes ∧ smallL m.cells ∧ bndT m.ths) : FiisMachine [S.agg (encProg false p), S.agg (encMa false m)] = some (S.one (C.bool (isMa p m)), [S.one C.unk, S.one C.unk]) := by
  obtain ⟨pc, codes⟩ := p
  obtain ⟨cells, ths⟩ := m
  obtain ⟨hb1, hb2, hb3⟩ := h
  simp only at hb1 hb2 hb3
  simp only [miisMachine, isMa, FiMemOk_at _ hb2, List.length_map, bne]
  cases h1 : memOk cells <;> simp
  by_cases h2 : (cells.length : Int) = pc
  · by_cases h3 : ths.length = codes.length
    · have e2 : ((cells.length : Int) == pc) = true := by simpa using h2
      have e3 : ((ths.length : Int) == (codes.length : Int)) = true := by simp [h3]
      have hz : (ths.zip codes).length = ths.length := by simp [h3]
      simp only [e2, e3, Bool.not_true, cond_false]
      refine (iter_all (h := hiisMachine_4) (ths.zip codes) (fun i f => f none (ths.map (encTh false)) (ths.length : Int) (i : Int) pc none (codes.map (encCode false)) none (cells.map encInt) none (ths.map (encTh false))) (fun x => thOk pc x.1 x.2) (fr false 2 [.one (.bool true)]) (fr false 2 [.one (.bool false)]) (by have := hb3.1; omega) ?_ ?_).trans ?_
      · intro nx; rw [hz]; simp [RiisMachine_4]
      · intro nx i hi hW
        have hi1 : i < ths.length := by omega
        have hi2 : i < codes.length := by omega
        have ht := hb3.2 _ (List.getElem_mem hi1)
        simp only [List.getElem_zip, thOk]
        simp [RiisMachine_4, hi1, hi2, hW, Fiwithin_at, FiareValues_at _ _ ht.1, FiBufOk_at _ _ ht.2, FslicesContainsFunc_iSlot_iisMachine_1_at none ths[i].buf pc _ ht.2]
        cases inB ths[i].pc 0 codes[i].length <;> simp
        by_cases h4 : ths[i].vals.length = 4
        · have h4' : (ths[i].vals.length : Int) = 4 := by omega
          simp [h4, h4', bne]
          cases ths[i].vals.all isV <;> simp
          cases bufOk ths[i].buf <;> simp
          rw [← any_ge]
          cases (ths[i].buf.any fun s => decide (s.a ≥ pc)) <;> simp
        · have h4' : ¬ (ths[i].vals.length : Int) = 4 := by omega
          have h5 : ((ths[i].vals.length : Int) != 4) = true := by simpa using h4'
          have h6 : (ths[i].vals.length == 4) = false := by simpa using h4
          simp [h5, h6]
      · simp only [h2, h3, decide_true, Bool.true_and]
        cases (ths.zip codes).all fun x => thOk pc x.1 x.2 <;> simp
    · have h3' : ¬ (ths.length : Int) = codes.length := by omega
      have h4 : ((ths.length : Int) == codes.length) = false := by simpa using h3'
      simp [h2, h3, h4]
  · have h4 : ((cells.length : Int) == pc) = false := by simpa using h2
    simp [h2, h4]
/-! iMachineOk: loop.example/g00712/impl.MachineOk -/
noncomputable def QiMachineOk : Fx := ⟨Go.Proofs.Tryz.f42, [.ro, .ro], false, mkEnv tys_m2 [(75, SiProgOk), (76, SiisMachine)] [], fun _ => .stop, []⟩
noncomputable def FiMachineOk : List S → Option Res := veil QiMachineOk.run
noncomputable def SiMachineOk : Spec := ⟨[.ro, .ro], false, FiMachineOk⟩
theorem miMachineOk (x1 : Int) (x2 : List (List C)) (x3 : List (List C)) (x4 : List (List C)) : FiMachineOk [.agg [.int x1, .sl false none 1 x2], .agg [.sl false none 1 x3, .sl false none 3 x4]] = cV false [.bool] (FiProgOk [.agg [.int x1, .sl false none 1 x2]]) fun b1 => bif b1 then cV false [.bool] (FiisMachine [.agg [.int x1, .sl false none 1 x2], .agg [.sl false none 1 x3, .sl false none 3 x4]]) fun b2 => fr false 2 [.one (.bool b2)] else fr false 2 [.one (.bool false)] := Fx.eq (by kernel_rfl)
theorem okiMachineOk : CalleeOk Go.Proofs.Tryz.prog 42 SiMachineOk := Fx.ok (F := QiMachineOk) follows (envTy_mk tys_m2_eq) (envSpec_of (specsOk_cons okiProgOk (specsOk_cons okiisMachine specsOk_nil))) Go.Proofs.Tryz.func42 (by kernel_rfl) (by kernel_rfl) (by rw [show subs QiMachineOk.code = [] by kernel_rfl]; trivial) (by kernel_rfl) (by kernel_rfl) rfl
theorem FiMachineOk_at (p : Prog) (m : Machine) (h : bndL p.codes ∧ smallL m.cells ∧ bndT m.ths) : FiMachineOk [S.agg (encProg false p), S.agg (encMa false m)] = some (S.one (C.bool (progOk p && isMa p m)), [S.one C.unk, S.one C.unk]) := by
  simp only [miMachineOk, FiProgOk_at _ h.1, FiisMachine_at _ _ h]
  cases progOk p <;> simp
/-! iHasFence: loop.example/g00712/impl.HasFence -/
noncomputable def QiHasFence : Fx := ⟨Go.Proofs.Tryz.f84, [.ro], false, mkEnv tys_m2 [] [], fun _ => .stop, []⟩
noncomputable def FiHasFence : List S → Option Res := veil QiHasFence.run
noncomputable def SiHasFence : Spec := ⟨[.ro], false, FiHasFence⟩
theorem miHasFence (x1 : Int) (x2 : Int) (x3 : Int) (x4 : Int) : FiHasFence [.agg [.int x1, .int x2, .int x3, .int x4]] = bif x1 == 4 then fr false 1 [.one (.bool true)] else bif x1 == 5 then fr false 1 [.one (.bool true)] else fr false 1 [.one (.bool (x1 == 7))] := Fx.eq (by kernel_rfl)
theorem okiHasFence : CalleeOk Go.Proofs.Tryz.prog 84 SiHasFence := Fx.ok (F := QiHasFence) follows (envTy_mk tys_m2_eq) (envSpec_of (specsOk_nil)) Go.Proofs.Tryz.func84 (by kernel_rfl) (by kernel_rfl) (by rw [show subs QiHasFence.code = [] by kernel_rfl]; trivial) (by kernel_rfl) (by kernel_rfl) rfl
theorem FiHasFence_at (i : Instr) : FiHasFence [S.agg (encInstr i)] = some (S.one (C.bool (fenceI i)), [S.one C.unk]) := by
  simp only [miHasFence, fenceI]
  cases (i.op == 4) <;> cases (i.op == 5) <;> simp
def canMv (p : Prog) (m : Machine) (t : Int) (dr : Bool) : Bool :=
  inB t 0 ((m.ths.length : Int) - 1) && (match m.ths[t.toNat]?, p.codes[t.toNat]? with
    | some th, some c => bif dr then decide (0 < th.buf.length) else
      match c[th.pc.toNat]? with
      | none => false
      | some i => bif i.op == 3 then decide (th.buf.length < 3) else bif fenceI i then th.buf.length == 0 else true
    | _, _ => false)
theorem isMa_th {p : Prog} {m : Machine} (h : isMa p m = true) {i : Nat} (hi : i < m.ths.length) : ∃ hc : i < p.codes.length, thOk p.cells m.ths[i] p.codes[i] = true := by
  simp only [isMa, Bool.and_eq_true, decide_eq_true_eq, List.all_eq_true] at h
  obtain ⟨⟨⟨_, _⟩, h3⟩, h4⟩ := h
  have hc : i < p.codes.length := by omega
  refine ⟨hc, ?_⟩
  have := h4 (m.ths[i], p.codes[i]) (by
    rw [← List.getElem_zip (l := m.ths) (l' := p.codes) (h := by simp; omega)]
    exact List.getElem_mem _)
  exact this
theorem thOk_iff {cells : Int} {t : Thread} {c : List Instr} : thOk cells t c = true ↔ (0 ≤ t.pc ∧ t.pc ≤ c.length) ∧ t.vals.length = 4 ∧ (∀ v ∈ t.vals, isV v = true) ∧ bufOk t.buf = true ∧ ∀ s ∈ t.buf, s.a < cells := by
  simp [thOk, inB, and_assoc]
/-! icanMove: loop.example/g00712/impl.canMove -/
noncomputable def QicanMove : Fx := ⟨Go.Proofs.Tryz.f57, [.ro, .ro, .ro], false, mkEnv tys_m2 [(77, Siwithin), (84, SiHasFence)] [], fun id => bif Nat.beq id 3 then .sq [0, 1, 2, 3, 4, 5, 6, 8] (.alt 7 (.alt 9 (.sq [10] (.alt 11 (.sq [12, 13, 14] .stop) (.sq [12] (.alt 11 (.sq [13, 14] .stop) (.sq [13, 11, 14] .stop))))) (.sq [12] (.alt 9 (.sq [10] (.alt 11 (.sq [13, 14] .stop) (.sq [13, 11, 14] .stop))) (.sq [13, 9, 10, 11, 14] .stop)))) (.alt 9 (.alt 7 (.sq [10] (.alt 11 (.sq [12, 13, 14] .stop) (.sq [12] (.alt 11 (.sq [13, 14] .stop) (.sq [13, 11, 14] .stop))))) (.sq [12] (.alt 7 (.sq [10] (.alt 11 (.sq [13, 14] .stop) (.sq [13, 11, 14] .stop))) (.sq [13, 7, 10, 11, 14] .stop)))) (.sq [12] (.alt 7 (.alt 9 (.sq [10] (.alt 11 (.sq [13, 14] .stop) (.sq [13, 11, 14] .stop))) (.sq [13, 9, 10, 11, 14] .stop)) (.alt 9 (.alt 7 (.sq [10] (.alt 11 (.sq [13, 14] .stop) (.sq [13, 11, 14] .stop))) (.sq [13, 7, 10, 11, 14] .stop)) (.sq [13] (.alt 7 (.sq [9, 10, 11, 14] .stop) (.sq [9, 7, 10, 11, 14] .stop)))))))) else .stop, []⟩
noncomputable def FicanMove : List S → Option Res := veil QicanMove.run
noncomputable def SicanMove : Spec := ⟨[.ro, .ro, .ro], false, FicanMove⟩
theorem micanMove (x1 : Int) (x2 : List (List C)) (x3 : List (List C)) (x4 : List (List C)) (x5 : Int) (x6 : Bool) : FicanMove [.agg [.int x1, .sl false none 1 x2], .agg [.sl false none 1 x3, .sl false none 3 x4], .agg [.int x5, .bool x6]] = cV false [.bool] (Fiwithin [.one (.int x5), .one (.int 0), .one (.int (W ((x4.length : Int) - 1)))]) fun b1 => bif !b1 then fr false 3 [.one (.bool false)] else (let q1 : (List (List C)) → (List C) → Int → (List (List C)) → (List (List C)) → (List C) → (List (List C)) → Int → (List (List C)) → (List (List C)) → Option Res := fun z1 z2 z3 z4 z5 z6 z7 z8 z9 z10 => bif x6 then fr false 3 [.one (.bool (decide ((z10.length : Int) > 0)))] else bif z8 == (z1.length : Int) then fr false 3 [.one (.bool false)] else ix z8 z1 ((z1[Int.toNat z8]?).bind fun w1 => tRo [.int .i64] w1 fun n1 => bif n1 == 3 then fr false 3 [.one (.bool (decide ((z10.length : Int) < 3)))] else ix z8 z1 ((z1[Int.toNat z8]?).bind fun w2 => tRo [.int .i64, .int .i64, .int .i64, .int .i64] w2 fun n2 n3 n4 n5 => cV false [.bool] (FiHasFence [.agg [.int n2, .int n3, .int n4, .int n5]]) fun b2 => bif b2 then fr false 3 [.one (.bool ((z10.length : Int) == 0))] else fr false 3 [.one (.bool true)])); ix x5 x4 ((x4[Int.toNat x5]?).bind fun w3 => tRo [.int .i64, .sl 1, .sl 2] w3 fun n6 _ l1 _ l2 => both (both (ix x5 x2 ((x2[Int.toNat x5]?).bind fun w4 => both (tRo [.sl 4] w4 fun _ l3 => q1 l3 w3 n6 l1 l2 w4 l3 n6 l1 l2) (both (tRo [.sl 4] w4 fun _ l4 => q1 l4 w3 n6 l1 l2 w4 l4 n6 l1 l2) (tRo [.sl 4] w4 fun _ l5 => q1 l5 w3 n6 l1 l2 w4 l5 n6 l1 l2)))) (both (ix x5 x2 ((x2[Int.toNat x5]?).bind fun w5 => both (tRo [.sl 4] w5 fun _ l6 => q1 l6 w3 n6 l1 l2 w5 l6 n6 l1 l2) (tRo [.sl 4] w5 fun _ l7 => q1 l7 w3 n6 l1 l2 w5 l7 n6 l1 l2))) (ix x5 x2 ((x2[Int.toNat x5]?).bind fun w6 => tRo [.sl 4] w6 fun _ l8 => q1 l8 w3 n6 l1 l2 w6 l8 n6 l1 l2)))) (both (both (ix x5 x2 ((x2[Int.toNat x5]?).bind fun w7 => both (tRo [.sl 4] w7 fun _ l9 => q1 l9 w3 n6 l1 l2 w7 l9 n6 l1 l2) (both (tRo [.sl 4] w7 fun _ l10 => q1 l10 w3 n6 l1 l2 w7 l10 n6 l1 l2) (tRo [.sl 4] w7 fun _ l11 => q1 l11 w3 n6 l1 l2 w7 l11 n6 l1 l2)))) (both (ix x5 x2 ((x2[Int.toNat x5]?).bind fun w8 => both (tRo [.sl 4] w8 fun _ l12 => q1 l12 w3 n6 l1 l2 w8 l12 n6 l1 l2) (tRo [.sl 4] w8 fun _ l13 => q1 l13 w3 n6 l1 l2 w8 l13 n6 l1 l2))) (ix x5 x2 ((x2[Int.toNat x5]?).bind fun w9 => tRo [.sl 4] w9 fun _ l14 => q1 l14 w3 n6 l1 l2 w9 l14 n6 l1 l2)))) (both (both (ix x5 x2 ((x2[Int.toNat x5]?).bind fun w10 => both (tRo [.sl 4] w10 fun _ l15 => q1 l15 w3 n6 l1 l2 w10 l15 n6 l1 l2) (tRo [.sl 4] w10 fun _ l16 => q1 l16 w3 n6 l1 l2 w10 l16 n6 l1 l2))) (ix x5 x2 ((x2[Int.toNat x5]?).bind fun w11 => tRo [.sl 4] w11 fun _ l17 => q1 l17 w3 n6 l1 l2 w11 l17 n6 l1 l2))) (both (both (ix x5 x2 ((x2[Int.toNat x5]?).bind fun w12 => both (tRo [.sl 4] w12 fun _ l18 => q1 l18 w3 n6 l1 l2 w12 l18 n6 l1 l2) (tRo [.sl 4] w12 fun _ l19 => q1 l19 w3 n6 l1 l2 w12 l19 n6 l1 l2))) (ix x5 x2 ((x2[Int.toNat x5]?).bind fun w13 => tRo [.sl 4] w13 fun _ l20 => q1 l20 w3 n6 l1 l2 w13 l20 n6 l1 l2))) (both (ix x5 x2 ((x2[Int.toNat x5]?).bind fun w14 => tRo [.sl 4] w14 fun _ l21 => q1 l21 w3 n6 l1 l2 w14 l21 n6 l1 l2)) (ix x5 x2 ((x2[Int.toNat x5]?).bind fun w15 => tRo [.sl 4] w15 fun _ l22 => q1 l22 w3 n6 l1 l2 w15 l22 n6 l1 l2)))))))) := Fx.eq (by kernel_rfl)
theorem okicanMove : CalleeOk Go.Proofs.Tryz.prog 57 SicanMove := Fx.ok (F := QicanMove) follows (envTy_mk tys_m2_eq) (envSpec_of (specsOk_cons okiwithin (specsOk_cons okiHasFence specsOk_nil))) Go.Proofs.Tryz.func57 (by kernel_rfl) (by kernel_rfl) (by rw [show subs QicanMove.code = [] by kernel_rfl]; trivial) (by kernel_rfl) (by kernel_rfl) rfl
theorem FicanMove_at (p : Prog) (m : Machine) (t : Int) (dr : Bool) (h : isMa p m = true ∧ m.ths.length ≤ 1048576) : FicanMove [S.agg (encProg false p), S.agg (encMa false m), S.agg [C.int t, C.bool dr]] = some (S.one (C.bool (canMv p m t dr)), [S.one C.unk, S.one C.unk, S.one C.unk]) := by
  obtain ⟨pc, codes⟩ := p
  obtain ⟨cells, ths⟩ := m
  obtain ⟨hm, hl⟩ := h
  simp only at hl
  have hw : W ((ths.length : Int) - 1) = (ths.length : Int) - 1 := W_eq (by omega) (by omega)
  simp only [micanMove, canMv, List.length_map, hw, Fiwithin_at]
  cases h1 : inB t 0 ((ths.length : Int) - 1) <;> simp
  obtain ⟨t1, t2⟩ := inB_iff.1 h1
  obtain ⟨n, rfl⟩ : ∃ n : Nat, t = (n : Int) := ⟨t.toNat, by omega⟩
  have hi : n < ths.length := by omega
  obtain ⟨hc, hok⟩ := isMa_th hm hi
  simp only at hc hok
  obtain ⟨⟨k1, k2⟩, _⟩ := thOk_iff.1 hok
  simp only [both_self]
  simp [hi, hc]
  cases dr with
  | true => simp
  | false =>
    by_cases e : ths[n].pc = (codes[n].length : Int)
    · have e2 : codes[n][ths[n].pc.toNat]? = none := by rw [List.getElem?_eq_none]; omega
      simp [e, e2]
    · have e3 : (ths[n].pc == (codes[n].length : Int)) = false := by simpa using e
      obtain ⟨q, hq⟩ : ∃ q : Nat, ths[n].pc = (q : Int) := ⟨ths[n].pc.toNat, by omega⟩
      have hq2 : q < codes[n].length := by omega
      have e4 : ((q : Int) == (codes[n].length : Int)) = false := by rw [← hq]; exact e3
      have e5 : ((ths[n].buf.length : Int) == 0) = (ths[n].buf.length == 0) := by rw [Bool.eq_iff_iff]; simp
      have e6 : decide ((ths[n].buf.length : Int) < 3) = decide (ths[n].buf.length < 3) := decide_eq_decide.2 (by omega)
      simp [e3, e4, e5, e6, hq, hq2, FiHasFence_at]
      cases (codes[n][q].op == 3) <;> simp
      · cases fenceI codes[n][q] <;> simp
/-! iCanMove: loop.example/g00712/impl.CanMove -/
noncomputable def QiCanMove : Fx := ⟨Go.Proofs.Tryz.f28, [.ro, .ro, .ro], false, mkEnv tys_m2 [(42, SiMachineOk), (57, SicanMove)] [], fun _ => .stop, []⟩
noncomputable def FiCanMove : List S → Option Res := veil QiCanMove.run
noncomputable def SiCanMove : Spec := ⟨[.ro, .ro, .ro], false, FiCanMove⟩
theorem miCanMove (x1 : Int) (x2 : List (List C)) (x3 : List (List C)) (x4 : List (List C)) (x5 : Int) (x6 : Bool) : FiCanMove [.agg [.int x1, .sl false none 1 x2], .agg [.sl false none 1 x3, .sl false none 3 x4], .agg [.int x5, .bool x6]] = cV false [.bool] (FiMachineOk [.agg [.int x1, .sl false none 1 x2], .agg [.sl false none 1 x3, .sl false none 3 x4]]) fun b1 => bif b1 then cV false [.bool] (FicanMove [.agg [.int x1, .sl false none 1 x2], .agg [.sl false none 1 x3, .sl false none 3 x4], .agg [.int x5, .bool x6]]) fun b2 => fr false 3 [.one (.bool b2)] else fr false 3 [.one (.bool false)] := Fx.eq (by kernel_rfl)
theorem okiCanMove : CalleeOk Go.Proofs.Tryz.prog 28 SiCanMove := Fx.ok (F := QiCanMove) follows (envTy_mk tys_m2_eq) (envSpec_of (specsOk_cons okiMachineOk (specsOk_cons okicanMove specsOk_nil))) Go.Proofs.Tryz.func28 (by kernel_rfl) (by kernel_rfl) (by rw [show subs QiCanMove.code = [] by kernel_rfl]; trivial) (by kernel_rfl) (by kernel_rfl) rfl
theorem FiCanMove_at (p : Prog) (m : Machine) (t : Int) (dr : Bool) (h : bndL p.codes ∧ smallL m.cells ∧ bndT m.ths ∧ m.ths.length ≤ 1048576) : FiCanMove [S.agg (encProg false p), S.agg (encMa false m), S.agg [C.int t, C.bool dr]] = some (S.one (C.bool (progOk p && isMa p m && canMv p m t dr)), [S.one C.unk, S.one C.unk, S.one C.unk]) := by
  simp only [miCanMove, FiMachineOk_at p m ⟨h.1, h.2.1, h.2.2.1⟩]
  cases h1 : progOk p <;> cases h2 : isMa p m <;> simp
  simp [FicanMove_at p m t dr ⟨h2, h.2.2.2⟩]
end Go.Proofs.Gh.Gm
