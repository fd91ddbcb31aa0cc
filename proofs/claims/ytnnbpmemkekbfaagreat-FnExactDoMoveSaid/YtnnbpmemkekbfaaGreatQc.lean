/- The program's functions by the ghost evaluator: what each computes, and that it does. -/
import Derived.Test.YtnnbpmemkekbfaaGreatGh47
import Derived.Test.YtnnbpmemkekbfaaGreatGh48
import Derived.Test.YtnnbpmemkekbfaaGreatGh45
import Derived.Test.YtnnbpmemkekbfaaGreatProg
import Derived.KernelRfl
import Derived.Test.YtnnbpmemkekbfaaGreatQb
set_option linter.unusedVariables false
set_option linter.unusedSimpArgs false
set_option maxRecDepth 100000
set_option maxHeartbeats 2000000
namespace Go.Proofs.Gh.Gm
def tys_m10 : List (Nat × TI) := [(3, ⟨false, 8, [.int .i64], [.int 0], .scalar, false⟩),
  (4, ⟨false, 1, [.bool], [.bool false], .scalar, false⟩),
  (5, ⟨false, 1, [.int .u8], [.v (.int .u8 0)], .scalar, false⟩),
  (9, ⟨false, 16, [.str], [.str ByteArray.empty], .scalar, false⟩),
  (92, ⟨true, 32, [.int .i64, .int .i64, .int .i64, .int .i64], [.int 0, .int 0, .int 0, .int 0], .struct [(0, 1, false), (1, 1, false), (2, 1, false), (3, 1, false)], true⟩),
  (135, ⟨false, 24, [.sl 1], [.sl true (some true) 1 []], .slice 9, false⟩)]
theorem tys_m10_eq : tys_m10.map (fun x => tiOf Go.Proofs.Tryz.prog x.1 x.2.cks) = tys_m10.map fun x => some x.2 := by kernel_rfl
def formS (op : Int) : List UInt8 := (([[114, 110], [114, 115], [114, 110], [114, 110], [], [114, 115, 110], [114, 110], [114, 115, 110], [114, 115]] : List (List UInt8))[op.toNat]?).getD []
/-! sl02Form: loop.example/g00712/spec.l02Form -/
noncomputable def Qsl02Form : Fx := ⟨Go.Proofs.Tryz.f114, [.ro], false, mkEnv tys_m10 [(40, Ssl01In)] [], fun _ => .stop, []⟩
noncomputable def Fsl02Form : List S → Option Res := veil Qsl02Form.run
noncomputable def Ssl02Form : Spec := ⟨[.ro], false, Fsl02Form⟩
theorem msl02Form (x1 : Int) : Fsl02Form [.one (.int x1)] = cV false [.bool] (Fsl01In [.one (.int x1), .one (.int 0), .one (.int 8)]) fun b1 => bif !b1 then fr false 1 [.one (.str (.mk #[63]))] else ix x1 [[.str (.mk #[114, 110])], [.str (.mk #[114, 115])], [.str (.mk #[114, 110])], [.str (.mk #[114, 110])], [.str (.mk #[])], [.str (.mk #[114, 115, 110])], [.str (.mk #[114, 110])], [.str (.mk #[114, 115, 110])], [.str (.mk #[114, 115])]] (([[.str (.mk #[114, 110])], [.str (.mk #[114, 115])], [.str (.mk #[114, 110])], [.str (.mk #[114, 110])], [.str (.mk #[])], [.str (.mk #[114, 115, 110])], [.str (.mk #[114, 110])], [.str (.mk #[114, 115, 110])], [.str (.mk #[114, 115])]][Int.toNat x1]?).bind fun w1 => tOwn [.str] w1 fun s1 => fr false 1 [.one (.str s1)]) := Fx.eq (by kernel_rfl)
theorem oksl02Form : CalleeOk Go.Proofs.Tryz.prog 114 Ssl02Form := Fx.ok (F := Qsl02Form) follows (envTy_mk tys_m10_eq) (envSpec_of (specsOk_cons oksl01In specsOk_nil)) Go.Proofs.Tryz.func114 (by kernel_rfl) (by kernel_rfl) (by rw [show subs Qsl02Form.code = [] by kernel_rfl]; trivial) (by kernel_rfl) (by kernel_rfl) rfl
theorem Fsl02Form_at (op : Int) (h : 0 ≤ op ∧ op ≤ 8) : Fsl02Form [S.one (C.int op)] = some (S.one (C.str ⟨⟨formS op⟩⟩), [S.one C.unk]) := by
  have hc : op = 0 ∨ op = 1 ∨ op = 2 ∨ op = 3 ∨ op = 4 ∨ op = 5 ∨ op = 6 ∨ op = 7 ∨ op = 8 := by omega
  rw [msl02Form, Fsl01In_at]
  rcases hc with e | e | e | e | e | e | e | e | e <;> subst e <;> simp [inB, ix, formS]
/-! sl02Named: loop.example/g00712/spec.l02Named -/
@[reducible] def hsl02Named_3 : Sh := ⟨[.one (.o (.i .u8)), .one (.o .s), .one (.o (.i .i64))], []⟩
@[reducible] def xsl02Named_3 : List (Ex × Sh) := [(.ret, ⟨[.one (.o .b)], []⟩), (.exit 0, ⟨[.one (.o .u)], []⟩)]
noncomputable def Rsl02Named_3 : KC xsl02Named_3 (hsl02Named_3.K → hsl02Named_3.K) := fun k0 k1 nx v1 v2 v3 => bif decide (v3 < (v2.size : Int)) then if 0 ≤ v3 ∧ v3 < (v2.size : Int) then bif (v2.data.toList.getD (Int.toNat v3) 0).toNat == v1 then k0 true else nx v1 v2 (W (v3 + 1)) else none else k1
noncomputable def Lsl02Named_3 : Lp := ⟨3, [1, 5, 6], [4], 0, 20, hsl02Named_3, xsl02Named_3, Rsl02Named_3⟩
noncomputable def Qsl02Named : Fx := ⟨Go.Proofs.Tryz.f102, [.ro, .ro], false, mkEnv tys_m10 [(114, Ssl02Form)] [], fun _ => .stop, [Lsl02Named_3]⟩
noncomputable def Fsl02Named : List S → Option Res := veil Qsl02Named.run
noncomputable def Ssl02Named : Spec := ⟨[.ro, .ro], false, Fsl02Named⟩
theorem msl02Named (x1 : Int) (x2 : Int) : Fsl02Named [.one (.int x1), .one (.v (.int .u8 x2))] = cV false [.str] (Fsl02Form [.one (.int x1)]) fun s1 => iterC (Rsl02Named_3 (fun y1 => fr false 2 [.one (.bool y1)]) (fr false 2 [.one (.bool false)])) FUEL x2 s1 0 := Fx.eq (by kernel_rfl)
theorem stsl02Named_3 : Lsl02Named_3.Step Qsl02Named.E Qsl02Named.dr Qsl02Named.lp ((findLoop 3 Qsl02Named.code).getD .skip) := fun k nx v => by kernel_rfl
theorem oksl02Named : CalleeOk Go.Proofs.Tryz.prog 102 Ssl02Named := Fx.ok (F := Qsl02Named) follows (envTy_mk tys_m10_eq) (envSpec_of (specsOk_cons oksl02Form specsOk_nil)) Go.Proofs.Tryz.func102 (by kernel_rfl) (by kernel_rfl) (by
  rw [show subs Qsl02Named.code = [(findLoop 3 Qsl02Named.code).getD .skip] by kernel_rfl]
  exact ⟨stepAt_some (by kernel_rfl) stsl02Named_3, trivial⟩) (by kernel_rfl) (by kernel_rfl) rfl
theorem Fsl02Named_at (op f : Int) (h : 0 ≤ op ∧ op ≤ 8) : Fsl02Named [S.one (C.int op), S.one (C.v (.int .u8 f))] = some (S.one (C.bool ((formS op).any fun b => (b.toNat : Int) == f)), [S.one C.unk, S.one C.unk]) := by
  have hlen : (formS op).length ≤ 3 := by
    have hc : op = 0 ∨ op = 1 ∨ op = 2 ∨ op = 3 ∨ op = 4 ∨ op = 5 ∨ op = 6 ∨ op = 7 ∨ op = 8 := by omega
    rcases hc with e | e | e | e | e | e | e | e | e <;> subst e <;> decide
  rw [msl02Named, Fsl02Form_at _ h]
  simp only [cV, Option.bind_some, tOne, tOwn, tRes, id]
  refine (iter_find (h := hsl02Named_3) (formS op) (fun i g => g f ⟨⟨formS op⟩⟩ (i : Int)) (fun b => (b.toNat : Int) == f) (fun _ => fr false 2 [.one (.bool true)]) (fr false 2 [.one (.bool false)]) (by omega) ?_ ?_).trans ?_
  · intro nx; simp [Rsl02Named_3, ByteArray.size]
  · intro nx i hi hW
    simp [Rsl02Named_3, hi, hW, ByteArray.size]
  · cases (formS op).any fun b => (b.toNat : Int) == f <;> simp
/-! sInstrOk: loop.example/g00712/spec.InstrOk -/
noncomputable def QsInstrOk : Fx := ⟨Go.Proofs.Tryz.f90, [.ro, .ro, .ro], false, mkEnv tys_m10 [(102, Ssl02Named), (40, Ssl01In)] [], fun _ => .stop, []⟩
noncomputable def FsInstrOk : List S → Option Res := veil QsInstrOk.run
noncomputable def SsInstrOk : Spec := ⟨[.ro, .ro, .ro], false, FsInstrOk⟩
theorem msInstrOk (x1 : Int) (x2 : Int) (x3 : Int) (x4 : Int) (x5 : Int) (x6 : Int) : FsInstrOk [.agg [.int x1, .int x2, .int x3, .int x4], .one (.int x5), .one (.int x6)] = cV false [.bool] (Fsl01In [.one (.int x5), .one (.int 1), .one (.int 16)]) fun b1 => bif !b1 then fr false 3 [.one (.bool false)] else cV false [.bool] (Fsl01In [.one (.int x6), .one (.int 0), .one (.int 16)]) fun b2 => bif !b2 then fr false 3 [.one (.bool false)] else cV false [.bool] (Fsl01In [.one (.int x1), .one (.int 0), .one (.int 8)]) fun b3 => bif !b3 then fr false 3 [.one (.bool false)] else cV false [.bool] (Fsl01In [.one (.int x2), .one (.int 0), .one (.int 3)]) fun b4 => bif !b4 then fr false 3 [.one (.bool false)] else cV false [.bool] (Fsl01In [.one (.int x3), .one (.int 0), .one (.int 3)]) fun b5 => bif !b5 then fr false 3 [.one (.bool false)] else cV false [.bool] (Fsl02Named [.one (.int x1), .one (.v (.int .u8 114))]) fun b6 => bif !b6 then bif x2 != 0 then fr false 3 [.one (.bool false)] else cV false [.bool] (Fsl02Named [.one (.int x1), .one (.v (.int .u8 115))]) fun b7 => bif !b7 then bif x3 != 0 then fr false 3 [.one (.bool false)] else cV false [.bool] (Fsl02Named [.one (.int x1), .one (.v (.int .u8 110))]) fun b8 => bif !b8 then bif x4 != 0 then fr false 3 [.one (.bool false)] else bif x1 == 0 then cV false [.bool] (Fsl01In [.one (.int x4), .one (.int (-1000)), .one (.int 1000)]) fun b9 => fr false 3 [.one (.bool b9)] else bif x1 == 2 then bif x1 == 2 then cV false [.bool] (Fsl01In [.one (.int x4), .one (.int 0), .one (.int (W (x5 - 1)))]) fun b10 => fr false 3 [.one (.bool b10)] else bif x1 == 6 then cV false [.bool] (Fsl01In [.one (.int x4), .one (.int 0), .one (.int x6)]) fun b11 => fr false 3 [.one (.bool b11)] else fr false 3 [.one (.bool true)] else bif x1 == 3 then bif x1 == 3 then cV false [.bool] (Fsl01In [.one (.int x4), .one (.int 0), .one (.int (W (x5 - 1)))]) fun b12 => fr false 3 [.one (.bool b12)] else bif x1 == 6 then cV false [.bool] (Fsl01In [.one (.int x4), .one (.int 0), .one (.int x6)]) fun b13 => fr false 3 [.one (.bool b13)] else fr false 3 [.one (.bool true)] else bif x1 == 5 then bif x1 == 5 then cV false [.bool] (Fsl01In [.one (.int x4), .one (.int 0), .one (.int (W (x5 - 1)))]) fun b14 => fr false 3 [.one (.bool b14)] else bif x1 == 6 then cV false [.bool] (Fsl01In [.one (.int x4), .one (.int 0), .one (.int x6)]) fun b15 => fr false 3 [.one (.bool b15)] else fr false 3 [.one (.bool true)] else bif x1 == 7 then cV false [.bool] (Fsl01In [.one (.int x4), .one (.int 0), .one (.int (W (x5 - 1)))]) fun b16 => fr false 3 [.one (.bool b16)] else bif x1 == 6 then cV false [.bool] (Fsl01In [.one (.int x4), .one (.int 0), .one (.int x6)]) fun b17 => fr false 3 [.one (.bool b17)] else fr false 3 [.one (.bool true)] else bif x1 == 0 then cV false [.bool] (Fsl01In [.one (.int x4), .one (.int (-1000)), .one (.int 1000)]) fun b18 => fr false 3 [.one (.bool b18)] else bif x1 == 2 then bif x1 == 2 then cV false [.bool] (Fsl01In [.one (.int x4), .one (.int 0), .one (.int (W (x5 - 1)))]) fun b19 => fr false 3 [.one (.bool b19)] else bif x1 == 6 then cV false [.bool] (Fsl01In [.one (.int x4), .one (.int 0), .one (.int x6)]) fun b20 => fr false 3 [.one (.bool b20)] else fr false 3 [.one (.bool true)] else bif x1 == 3 then bif x1 == 3 then cV false [.bool] (Fsl01In [.one (.int x4), .one (.int 0), .one (.int (W (x5 - 1)))]) fun b21 => fr false 3 [.one (.bool b21)] else bif x1 == 6 then cV false [.bool] (Fsl01In [.one (.int x4), .one (.int 0), .one (.int x6)]) fun b22 => fr false 3 [.one (.bool b22)] else fr false 3 [.one (.bool true)] else bif x1 == 5 then bif x1 == 5 then cV false [.bool] (Fsl01In [.one (.int x4), .one (.int 0), .one (.int (W (x5 - 1)))]) fun b23 => fr false 3 [.one (.bool b23)] else bif x1 == 6 then cV false [.bool] (Fsl01In [.one (.int x4), .one (.int 0), .one (.int x6)]) fun b24 => fr false 3 [.one (.bool b24)] else fr false 3 [.one (.bool true)] else bif x1 == 7 then cV false [.bool] (Fsl01In [.one (.int x4), .one (.int 0), .one (.int (W (x5 - 1)))]) fun b25 => fr false 3 [.one (.bool b25)] else bif x1 == 6 then cV false [.bool] (Fsl01In [.one (.int x4), .one (.int 0), .one (.int x6)]) fun b26 => fr false 3 [.one (.bool b26)] else fr false 3 [.one (.bool true)] else cV false [.bool] (Fsl02Named [.one (.int x1), .one (.v (.int .u8 110))]) fun b27 => bif !b27 then bif x4 != 0 then fr false 3 [.one (.bool false)] else bif x1 == 0 then cV false [.bool] (Fsl01In [.one (.int x4), .one (.int (-1000)), .one (.int 1000)]) fun b28 => fr false 3 [.one (.bool b28)] else bif x1 == 2 then bif x1 == 2 then cV false [.bool] (Fsl01In [.one (.int x4), .one (.int 0), .one (.int (W (x5 - 1)))]) fun b29 => fr false 3 [.one (.bool b29)] else bif x1 == 6 then cV false [.bool] (Fsl01In [.one (.int x4), .one (.int 0), .one (.int x6)]) fun b30 => fr false 3 [.one (.bool b30)] else fr false 3 [.one (.bool true)] else bif x1 == 3 then bif x1 == 3 then cV false [.bool] (Fsl01In [.one (.int x4), .one (.int 0), .one (.int (W (x5 - 1)))]) fun b31 => fr false 3 [.one (.bool b31)] else bif x1 == 6 then cV false [.bool] (Fsl01In [.one (.int x4), .one (.int 0), .one (.int x6)]) fun b32 => fr false 3 [.one (.bool b32)] else fr false 3 [.one (.bool true)] else bif x1 == 5 then bif x1 == 5 then cV false [.bool] (Fsl01In [.one (.int x4), .one (.int 0), .one (.int (W (x5 - 1)))]) fun b33 => fr false 3 [.one (.bool b33)] else bif x1 == 6 then cV false [.bool] (Fsl01In [.one (.int x4), .one (.int 0), .one (.int x6)]) fun b34 => fr false 3 [.one (.bool b34)] else fr false 3 [.one (.bool true)] else bif x1 == 7 then cV false [.bool] (Fsl01In [.one (.int x4), .one (.int 0), .one (.int (W (x5 - 1)))]) fun b35 => fr false 3 [.one (.bool b35)] else bif x1 == 6 then cV false [.bool] (Fsl01In [.one (.int x4), .one (.int 0), .one (.int x6)]) fun b36 => fr false 3 [.one (.bool b36)] else fr false 3 [.one (.bool true)] else bif x1 == 0 then cV false [.bool] (Fsl01In [.one (.int x4), .one (.int (-1000)), .one (.int 1000)]) fun b37 => fr false 3 [.one (.bool b37)] else bif x1 == 2 then bif x1 == 2 then cV false [.bool] (Fsl01In [.one (.int x4), .one (.int 0), .one (.int (W (x5 - 1)))]) fun b38 => fr false 3 [.one (.bool b38)] else bif x1 == 6 then cV false [.bool] (Fsl01In [.one (.int x4), .one (.int 0), .one (.int x6)]) fun b39 => fr false 3 [.one (.bool b39)] else fr false 3 [.one (.bool true)] else bif x1 == 3 then bif x1 == 3 then cV false [.bool] (Fsl01In [.one (.int x4), .one (.int 0), .one (.int (W (x5 - 1)))]) fun b40 => fr false 3 [.one (.bool b40)] else bif x1 == 6 then cV false [.bool] (Fsl01In [.one (.int x4), .one (.int 0), .one (.int x6)]) fun b41 => fr false 3 [.one (.bool b41)] else fr false 3 [.one (.bool true)] else bif x1 == 5 then bif x1 == 5 then cV false [.bool] (Fsl01In [.one (.int x4), .one (.int 0), .one (.int (W (x5 - 1)))]) fun b42 => fr false 3 [.one (.bool b42)] else bif x1 == 6 then cV false [.bool] (Fsl01In [.one (.int x4), .one (.int 0), .one (.int x6)]) fun b43 => fr false 3 [.one (.bool b43)] else fr false 3 [.one (.bool true)] else bif x1 == 7 then cV false [.bool] (Fsl01In [.one (.int x4), .one (.int 0), .one (.int (W (x5 - 1)))]) fun b44 => fr false 3 [.one (.bool b44)] else bif x1 == 6 then cV false [.bool] (Fsl01In [.one (.int x4), .one (.int 0), .one (.int x6)]) fun b45 => fr false 3 [.one (.bool b45)] else fr false 3 [.one (.bool true)] else cV false [.bool] (Fsl02Named [.one (.int x1), .one (.v (.int .u8 115))]) fun b46 => bif !b46 then bif x3 != 0 then fr false 3 [.one (.bool false)] else cV false [.bool] (Fsl02Named [.one (.int x1), .one (.v (.int .u8 110))]) fun b47 => bif !b47 then bif x4 != 0 then fr false 3 [.one (.bool false)] else bif x1 == 0 then cV false [.bool] (Fsl01In [.one (.int x4), .one (.int (-1000)), .one (.int 1000)]) fun b48 => fr false 3 [.one (.bool b48)] else bif x1 == 2 then bif x1 == 2 then cV false [.bool] (Fsl01In [.one (.int x4), .one (.int 0), .one (.int (W (x5 - 1)))]) fun b49 => fr false 3 [.one (.bool b49)] else bif x1 == 6 then cV false [.bool] (Fsl01In [.one (.int x4), .one (.int 0), .one (.int x6)]) fun b50 => fr false 3 [.one (.bool b50)] else fr false 3 [.one (.bool true)] else bif x1 == 3 then bif x1 == 3 then cV false [.bool] (Fsl01In [.one (.int x4), .one (.int 0), .one (.int (W (x5 - 1)))]) fun b51 => fr false 3 [.one (.bool b51)] else bif x1 == 6 then cV false [.bool] (Fsl01In [.one (.int x4), .one (.int 0), .one (.int x6)]) fun b52 => fr false 3 [.one (.bool b52)] else fr false 3 [.one (.bool true)] else bif x1 == 5 then bif x1 == 5 then cV false [.bool] (Fsl01In [.one (.int x4), .one (.int 0), .one (.int (W (x5 - 1)))]) fun b53 => fr false 3 [.one (.bool b53)] else bif x1 == 6 then cV false [.bool] (Fsl01In [.one (.int x4), .one (.int 0), .one (.int x6)]) fun b54 => fr false 3 [.one (.bool b54)] else fr false 3 [.one (.bool true)] else bif x1 == 7 then cV false [.bool] (Fsl01In [.one (.int x4), .one (.int 0), .one (.int (W (x5 - 1)))]) fun b55 => fr false 3 [.one (.bool b55)] else bif x1 == 6 then cV false [.bool] (Fsl01In [.one (.int x4), .one (.int 0), .one (.int x6)]) fun b56 => fr false 3 [.one (.bool b56)] else fr false 3 [.one (.bool true)] else bif x1 == 0 then cV false [.bool] (Fsl01In [.one (.int x4), .one (.int (-1000)), .one (.int 1000)]) fun b57 => fr false 3 [.one (.bool b57)] else bif x1 == 2 then bif x1 == 2 then cV false [.bool] (Fsl01In [.one (.int x4), .one (.int 0), .one (.int (W (x5 - 1)))]) fun b58 => fr false 3 [.one (.bool b58)] else bif x1 == 6 then cV false [.bool] (Fsl01In [.one (.int x4), .one (.int 0), .one (.int x6)]) fun b59 => fr false 3 [.one (.bool b59)] else fr false 3 [.one (.bool true)] else bif x1 == 3 then bif x1 == 3 then cV false [.bool] (Fsl01In [.one (.int x4), .one (.int 0), .one (.int (W (x5 - 1)))]) fun b60 => fr false 3 [.one (.bool b60)] else bif x1 == 6 then cV false [.bool] (Fsl01In [.one (.int x4), .one (.int 0), .one (.int x6)]) fun b61 => fr false 3 [.one (.bool b61)] else fr false 3 [.one (.bool true)] else bif x1 == 5 then bif x1 == 5 then cV false [.bool] (Fsl01In [.one (.int x4), .one (.int 0), .one (.int (W (x5 - 1)))]) fun b62 => fr false 3 [.one (.bool b62)] else bif x1 == 6 then cV false [.bool] (Fsl01In [.one (.int x4), .one (.int 0), .one (.int x6)]) fun b63 => fr false 3 [.one (.bool b63)] else fr false 3 [.one (.bool true)] else bif x1 == 7 then cV false [.bool] (Fsl01In [.one (.int x4), .one (.int 0), .one (.int (W (x5 - 1)))]) fun b64 => fr false 3 [.one (.bool b64)] else bif x1 == 6 then cV false [.bool] (Fsl01In [.one (.int x4), .one (.int 0), .one (.int x6)]) fun b65 => fr false 3 [.one (.bool b65)] else fr false 3 [.one (.bool true)] else cV false [.bool] (Fsl02Named [.one (.int x1), .one (.v (.int .u8 110))]) fun b66 => bif !b66 then bif x4 != 0 then fr false 3 [.one (.bool false)] else bif x1 == 0 then cV false [.bool] (Fsl01In [.one (.int x4), .one (.int (-1000)), .one (.int 1000)]) fun b67 => fr false 3 [.one (.bool b67)] else bif x1 == 2 then bif x1 == 2 then cV false [.bool] (Fsl01In [.one (.int x4), .one (.int 0), .one (.int (W (x5 - 1)))]) fun b68 => fr false 3 [.one (.bool b68)] else bif x1 == 6 then cV false [.bool] (Fsl01In [.one (.int x4), .one (.int 0), .one (.int x6)]) fun b69 => fr false 3 [.one (.bool b69)] else fr false 3 [.one (.bool true)] else bif x1 == 3 then bif x1 == 3 then cV false [.bool] (Fsl01In [.one (.int x4), .one (.int 0), .one (.int (W (x5 - 1)))]) fun b70 => fr false 3 [.one (.bool b70)] else bif x1 == 6 then cV false [.bool] (Fsl01In [.one (.int x4), .one (.int 0), .one (.int x6)]) fun b71 => fr false 3 [.one (.bool b71)] else fr false 3 [.one (.bool true)] else bif x1 == 5 then bif x1 == 5 then cV false [.bool] (Fsl01In [.one (.int x4), .one (.int 0), .one (.int (W (x5 - 1)))]) fun b72 => fr false 3 [.one (.bool b72)] else bif x1 == 6 then cV false [.bool] (Fsl01In [.one (.int x4), .one (.int 0), .one (.int x6)]) fun b73 => fr false 3 [.one (.bool b73)] else fr false 3 [.one (.bool true)] else bif x1 == 7 then cV false [.bool] (Fsl01In [.one (.int x4), .one (.int 0), .one (.int (W (x5 - 1)))]) fun b74 => fr false 3 [.one (.bool b74)] else bif x1 == 6 then cV false [.bool] (Fsl01In [.one (.int x4), .one (.int 0), .one (.int x6)]) fun b75 => fr false 3 [.one (.bool b75)] else fr false 3 [.one (.bool true)] else bif x1 == 0 then cV false [.bool] (Fsl01In [.one (.int x4), .one (.int (-1000)), .one (.int 1000)]) fun b76 => fr false 3 [.one (.bool b76)] else bif x1 == 2 then bif x1 == 2 then cV false [.bool] (Fsl01In [.one (.int x4), .one (.int 0), .one (.int (W (x5 - 1)))]) fun b77 => fr false 3 [.one (.bool b77)] else bif x1 == 6 then cV false [.bool] (Fsl01In [.one (.int x4), .one (.int 0), .one (.int x6)]) fun b78 => fr false 3 [.one (.bool b78)] else fr false 3 [.one (.bool true)] else bif x1 == 3 then bif x1 == 3 then cV false [.bool] (Fsl01In [.one (.int x4), .one (.int 0), .one (.int (W (x5 - 1)))]) fun b79 => fr false 3 [.one (.bool b79)] else bif x1 == 6 then cV false [.bool] (Fsl01In [.one (.int x4), .one (.int 0), .one (.int x6)]) fun b80 => fr false 3 [.one (.bool b80)] else fr false 3 [.one (.bool true)] else bif x1 == 5 then bif x1 == 5 then cV false [.bool] (Fsl01In [.one (.int x4), .one (.int 0), .one (.int (W (x5 - 1)))]) fun b81 => fr false 3 [.one (.bool b81)] else bif x1 == 6 then cV false [.bool] (Fsl01In [.one (.int x4), .one (.int 0), .one (.int x6)]) fun b82 => fr false 3 [.one (.bool b82)] else fr false 3 [.one (.bool true)] else bif x1 == 7 then cV false [.bool] (Fsl01In [.one (.int x4), .one (.int 0), .one (.int (W (x5 - 1)))]) fun b83 => fr false 3 [.one (.bool b83)] else bif x1 == 6 then cV false [.bool] (Fsl01In [.one (.int x4), .one (.int 0), .one (.int x6)]) fun b84 => fr false 3 [.one (.bool b84)] else fr false 3 [.one (.bool true)] := Fx.eq (by kernel_rfl)
theorem oksInstrOk : CalleeOk Go.Proofs.Tryz.prog 90 SsInstrOk := Fx.ok (F := QsInstrOk) follows (envTy_mk tys_m10_eq) (envSpec_of (specsOk_cons oksl02Named (specsOk_cons oksl01In specsOk_nil))) Go.Proofs.Tryz.func90 (by kernel_rfl) (by kernel_rfl) (by rw [show subs QsInstrOk.code = [] by kernel_rfl]; trivial) (by kernel_rfl) (by kernel_rfl) rfl
theorem FsInstrOk_at (i : Instr) (cells size : Int) : FsInstrOk [S.agg (encInstr i), S.one (C.int cells), S.one (C.int size)] = some (S.one (C.bool (instrOk i cells size)), [S.one C.unk, S.one C.unk, S.one C.unk]) := by
  rw [msInstrOk]
  simp only [Fsl01In_at, instrOk]
  cases h1 : inB cells 1 16
  · simp
  cases h2 : inB size 0 16
  · simp
  cases h3 : inB i.op 0 8
  · simp
  cases h4 : inB i.r 0 3
  · simp
  cases h5 : inB i.s 0 3
  · simp
  have h3' := h3
  have h1' := h1
  simp only [inB, Bool.and_eq_true, decide_eq_true_eq] at h3' h1'
  have hw : W (cells - 1) = cells - 1 := W_eq (by omega) (by omega)
  have hc : i.op = 0 ∨ i.op = 1 ∨ i.op = 2 ∨ i.op = 3 ∨ i.op = 4 ∨ i.op = 5 ∨ i.op = 6 ∨ i.op = 7 ∨ i.op = 8 := by omega
  simp only [Fsl02Named_at i.op 114 h3', Fsl02Named_at i.op 115 h3', Fsl02Named_at i.op 110 h3', hw]
  have hr : ∀ x : Int, (x != 0) = !(x == 0) := fun x => rfl
  rcases hc with e | e | e | e | e | e | e | e | e <;> rw [e] <;> simp [formS, useR, useS, useN, hr] <;> cases (i.r == 0) <;> cases (i.s == 0) <;> cases (i.n == 0) <;> simp
end Go.Proofs.Gh.Gm
set_option linter.unusedVariables false
set_option linter.unusedSimpArgs false
set_option maxRecDepth 100000
set_option maxHeartbeats 2000000
namespace Go.Proofs.Gh.Gm
def tys_m11 : List (Nat × TI) := [(3, ⟨false, 8, [.int .i64], [.int 0], .scalar, false⟩),
  (4, ⟨false, 1, [.bool], [.bool false], .scalar, false⟩),
  (41, ⟨false, 24, [.sl 1], [.sl true (some true) 1 []], .slice 76, false⟩),
  (43, ⟨true, 32, [.int .i64, .sl 1], [.int 0, .sl true (some true) 1 []], .struct [(0, 1, false), (1, 1, false)], false⟩),
  (76, ⟨false, 24, [.sl 4], [.sl true (some true) 4 []], .slice 92, false⟩),
  (92, ⟨true, 32, [.int .i64, .int .i64, .int .i64, .int .i64], [.int 0, .int 0, .int 0, .int 0], .struct [(0, 1, false), (1, 1, false), (2, 1, false), (3, 1, false)], true⟩)]
theorem tys_m11_eq : tys_m11.map (fun x => tiOf Go.Proofs.Tryz.prog x.1 x.2.cks) = tys_m11.map fun x => some x.2 := by kernel_rfl
/-! sProgOk: loop.example/g00712/spec.ProgOk -/
@[reducible] def hsProgOk_9 : Sh := ⟨[.one (.o (.pl 0 0 [])), .one (.o (.i .i64)), .one (.o (.i .i64))], [(false, [.o (.i .i64), .o (.sl false 1)])]⟩
@[reducible] def xsProgOk_9 : List (Ex × Sh) := [(.ret, ⟨[.one (.o (.pl 0 0 [])), .one (.o .b), .one (.o (.i .i64))], [(false, [.o (.i .i64), .o (.sl false 1)])]⟩), (.exit 2, ⟨[.one (.o (.pl 0 0 [])), .one (.o .u), .one (.o (.i .i64))], [(false, [.o (.i .i64), .o (.sl false 1)])]⟩)]
noncomputable def RsProgOk_9 : KC xsProgOk_9 (hsProgOk_9.K → hsProgOk_9.K) := fun k0 k1 nx v1 v2 v3 v4 v5 => ix v1 v5 ((v5[Int.toNat v1]?).bind fun w2 => tRo [.sl 4] w2 fun _ l2 => bif decide (v2 < (l2.length : Int)) then ix v1 v5 ((v5[Int.toNat v1]?).bind fun w3 => tRo [.sl 4] w3 fun _ l3 => ix v2 l3 ((l3[Int.toNat v2]?).bind fun w4 => tRo [.int .i64, .int .i64, .int .i64, .int .i64] w4 fun n1 n2 n3 n4 => ix v1 v5 ((v5[Int.toNat v1]?).bind fun w5 => tRo [.sl 4] w5 fun _ l4 => cV false [.bool] (FsInstrOk [.agg [.int n1, .int n2, .int n3, .int n4], .one (.int v3), .one (.int (l4.length : Int))]) fun b3 => bif !b3 then k0 false v1 v3 v4 v5 else nx v1 (W (v2 + 1)) v3 v4 v5))) else k1 v1 v3 v4 v5)
noncomputable def LsProgOk_9 : Lp := ⟨9, [1, 3, 4], [1, 2, 3], 1, 58, hsProgOk_9, xsProgOk_9, RsProgOk_9⟩
@[reducible] def hsProgOk_4 : Sh := ⟨[.one (.o (.pl 0 0 [])), .one (.o (.i .i64))], [(false, [.o (.i .i64), .o (.sl false 1)])]⟩
@[reducible] def xsProgOk_4 : List (Ex × Sh) := [(.ret, ⟨[.one (.o .b)], [(false, [.o (.i .i64), .o (.sl false 1)])]⟩), (.exit 0, ⟨[.one (.o .u)], [(false, [.o (.i .i64), .o (.sl false 1)])]⟩)]
noncomputable def RsProgOk_4 : KC xsProgOk_4 (hsProgOk_4.K → hsProgOk_4.K) := fun k0 k1 nx v1 v2 v3 v4 => bif decide (v1 < (v4.length : Int)) then ix v1 v4 ((v4[Int.toNat v1]?).bind fun w1 => tRo [.sl 4] w1 fun _ l1 => bif decide ((l1.length : Int) > 16) then k0 false v2 v3 v4 else iterC (RsProgOk_9 (fun y1 y2 y3 y4 y5 => k0 y1 y3 y4 y5) (fun y6 y7 y8 y9 => nx (W (y6 + 1)) y7 y8 y9)) FUEL v1 0 v2 v3 v4) else k1 v2 v3 v4
noncomputable def LsProgOk_4 : Lp := ⟨4, [1, 3], [2], 1, 58, hsProgOk_4, xsProgOk_4, RsProgOk_4⟩
noncomputable def QsProgOk : Fx := ⟨Go.Proofs.Tryz.f71, [.ro], false, mkEnv tys_m11 [(40, Ssl01In), (90, SsInstrOk)] [], fun id => bif Nat.beq id 11 then .sq [0, 1, 2, 3, 4, 5, 6, 7, 8, 9, 10, 11, 12, 13, 14, 15, 16, 17] .stop else .stop, [LsProgOk_9, LsProgOk_4]⟩
noncomputable def FsProgOk : List S → Option Res := veil QsProgOk.run
noncomputable def SsProgOk : Spec := ⟨[.ro], false, FsProgOk⟩
theorem msProgOk (x1 : Int) (x2 : List (List C)) : FsProgOk [.agg [.int x1, .sl false none 1 x2]] = cV false [.bool] (Fsl01In [.one (.int x1), .one (.int 1), .one (.int 16)]) fun b1 => bif !b1 then fr false 1 [.one (.bool false)] else cV false [.bool] (Fsl01In [.one (.int (x2.length : Int)), .one (.int 1), .one (.int 3)]) fun b2 => bif !b2 then fr false 1 [.one (.bool false)] else iterC (RsProgOk_4 (fun y1 y2 y3 y4 => fr false 1 [.one (.bool y1)]) (fun y5 y6 y7 => fr false 1 [.one (.bool true)])) FUEL 0 x1 none x2 := Fx.eq (by kernel_rfl)
theorem stsProgOk_9 : LsProgOk_9.Step QsProgOk.E QsProgOk.dr QsProgOk.lp ((findLoop 9 QsProgOk.code).getD .skip) := fun k nx v => by kernel_rfl
theorem stsProgOk_4 : LsProgOk_4.Step QsProgOk.E QsProgOk.dr QsProgOk.lp ((findLoop 4 QsProgOk.code).getD .skip) := fun k nx v => by kernel_rfl
theorem oksProgOk : CalleeOk Go.Proofs.Tryz.prog 71 SsProgOk := Fx.ok (F := QsProgOk) follows (envTy_mk tys_m11_eq) (envSpec_of (specsOk_cons oksl01In (specsOk_cons oksInstrOk specsOk_nil))) Go.Proofs.Tryz.func71 (by kernel_rfl) (by kernel_rfl) (by
  rw [show subs QsProgOk.code = [(findLoop 4 QsProgOk.code).getD .skip, (findLoop 9 QsProgOk.code).getD .skip] by kernel_rfl]
  exact ⟨stepAt_some (by kernel_rfl) stsProgOk_4, stepAt_some (by kernel_rfl) stsProgOk_9, trivial⟩) (by kernel_rfl) (by kernel_rfl) rfl
theorem FsProgOk_at (p : Prog) (h : bndL p.codes) : FsProgOk [S.agg (encProg false p)] = some (S.one (C.bool (progOk p)), [S.one C.unk]) := by
  rw [msProgOk]
  simp only [Fsl01In_at, progOk, List.length_map]
  cases h1 : inB p.cells 1 16
  · simp
  cases h2 : inB (p.codes.length : Int) 1 3
  · simp
  simp only [cV, Option.bind_some, tOne, tOwn, tRes, id, Bool.not_true, cond_false, Bool.true_and]
  refine (iter_all (h := hsProgOk_4) p.codes (fun t f => f (t : Int) p.cells none (p.codes.map (encCode false))) (codeOk p.cells) (fr false 1 [.one (.bool true)]) (fr false 1 [.one (.bool false)]) (by have := h.1; omega) ?_ ?_).trans ?_
  · intro nx; simp [RsProgOk_4]
  · intro nx t ht hW
    have hlen := h.2 _ (List.getElem_mem ht)
    by_cases hl : p.codes[t].length ≤ 16
    · have hl' : ¬ ((p.codes[t].length : Int) > 16) := by omega
      have hin := iter_all (h := hsProgOk_9) (fb := RsProgOk_9 (fun y1 y2 y3 y4 y5 => fr false 1 [.one (.bool y1)]) (fun y6 y7 y8 y9 => nx (W (y6 + 1)) y7 y8 y9)) p.codes[t] (fun j f => f (t : Int) (j : Int) p.cells none (p.codes.map (encCode false))) (fun i => instrOk i p.cells p.codes[t].length)
        (nx ((t : Int) + 1) p.cells none (p.codes.map (encCode false))) (fr false 1 [.one (.bool false)]) (by omega) ?_ ?_
      · simp only [codeOk, hl, decide_true, Bool.true_and]
        refine Eq.trans ?_ hin
        simp [RsProgOk_4, ht, hl']
      · intro nx2; simp [RsProgOk_9, ht, hW]
      · intro nx2 j hj hW2
        simp [RsProgOk_9, ht, hj, hW2, FsInstrOk_at]
        try (cases instrOk p.codes[t][j] p.cells p.codes[t].length <;> simp)
    · have hl' : (16 : Int) < (p.codes[t].length : Int) := by omega
      simp [RsProgOk_4, ht, hl', codeOk, hl]
  · cases p.codes.all (codeOk p.cells) <;> simp
end Go.Proofs.Gh.Gm
set_option linter.unusedVariables false
set_option linter.unusedSimpArgs false
set_option maxRecDepth 100000
set_option maxHeartbeats 2000000
namespace Go.Proofs.Gh.Gm
def tys_m12 : List (Nat × TI) := [(3, ⟨false, 8, [.int .i64], [.int 0], .scalar, false⟩),
  (4, ⟨false, 1, [.bool], [.bool false], .scalar, false⟩),
  (25, ⟨false, 24, [.sl 1], [.sl true (some true) 1 []], .slice 3, false⟩),
  (35, ⟨true, 24, [.sl 1], [.sl true (some true) 1 []], .struct [(0, 1, false)], false⟩),
  (36, ⟨false, 24, [.sl 3], [.sl true (some true) 3 []], .slice 75, false⟩),
  (38, ⟨true, 48, [.sl 1, .sl 3], [.sl true (some true) 1 [], .sl true (some true) 3 []], .struct [(0, 1, true), (1, 1, false)], false⟩),
  (41, ⟨false, 24, [.sl 1], [.sl true (some true) 1 []], .slice 76, false⟩),
  (43, ⟨true, 32, [.int .i64, .sl 1], [.int 0, .sl true (some true) 1 []], .struct [(0, 1, false), (1, 1, false)], false⟩),
  (73, ⟨false, 24, [.sl 2], [.sl true (some true) 2 []], .slice 90, false⟩),
  (75, ⟨true, 56, [.int .i64, .sl 1, .sl 2], [.int 0, .sl true (some true) 1 [], .sl true (some true) 2 []], .struct [(0, 1, false), (1, 1, false), (2, 1, false)], false⟩),
  (76, ⟨false, 24, [.sl 4], [.sl true (some true) 4 []], .slice 92, false⟩),
  (90, ⟨true, 16, [.int .i64, .int .i64], [.int 0, .int 0], .struct [(0, 1, false), (1, 1, false)], true⟩)]
theorem tys_m12_eq : tys_m12.map (fun x => tiOf Go.Proofs.Tryz.prog x.1 x.2.cks) = tys_m12.map fun x => some x.2 := by kernel_rfl
/-! sMachineOk: loop.example/g00712/spec.MachineOk -/
@[reducible] def hsMachineOk_10 : Sh := ⟨[.one (.o (.pl 0 0 [])), .one (.o (.pl 1 0 [])), .one (.o (.i .i64)), .one (.o (.pl 2 0 [])), .one (.o (.i .i64))], [(false, [.o (.i .i64), .o (.sl false 1)]), (false, [.o (.sl false 1), .o (.sl false 3)]), (false, [.o (.i .i64), .o (.sl false 1), .o (.sl false 2)])]⟩
@[reducible] def xsMachineOk_10 : List (Ex × Sh) := [(.ret, ⟨[.one (.o (.pl 0 0 [])), .one (.o (.pl 1 0 [])), .one (.o .b), .one (.o (.i .i64)), .one (.o (.pl 2 0 []))], [(false, [.o (.i .i64), .o (.sl false 1)]), (false, [.o (.sl false 1), .o (.sl false 3)]), (false, [.o (.i .i64), .o (.sl false 1), .o (.sl false 2)])]⟩), (.exit 2, ⟨[.one (.o (.pl 0 0 [])), .one (.o (.pl 1 0 [])), .one (.o .u), .one (.o (.i .i64)), .one (.o (.pl 2 0 []))], [(false, [.o (.i .i64), .o (.sl false 1)]), (false, [.o (.sl false 1), .o (.sl false 3)]), (false, [.o (.i .i64), .o (.sl false 1), .o (.sl false 2)])]⟩)]
noncomputable def RsMachineOk_10 : KC xsMachineOk_10 (hsMachineOk_10.K → hsMachineOk_10.K) := fun k0 k1 nx v1 v2 v3 v4 v5 v6 v7 v8 v9 v10 v11 v12 v13 v14 => bif decide (v2 < (v12.length : Int)) then ix v2 v12 ((v12[Int.toNat v2]?).bind fun w3 => tRo [.int .i64] w3 fun n2 => cV false [.bool] (Fsl01Value [.one (.int n2)]) fun b5 => bif !b5 then k0 false v1 v3 v4 v5 v6 v7 v8 v9 v10 v11 v12 v13 v14 else nx v1 (W (v2 + 1)) v3 v4 v5 v6 v7 v8 v9 v10 v11 v12 v13 v14) else k1 v1 v3 v4 v5 v6 v7 v8 v9 v10 v11 v12 v13 v14
noncomputable def LsMachineOk_10 : Lp := ⟨10, [2, 3, 5, 6, 7], [2, 3, 4, 5, 6], 3, 100, hsMachineOk_10, xsMachineOk_10, RsMachineOk_10⟩
@[reducible] def hsMachineOk_15 : Sh := ⟨[.one (.o (.pl 0 0 [])), .one (.o (.pl 1 0 [])), .one (.o (.i .i64)), .one (.o (.pl 2 0 [])), .one (.o (.i .i64))], [(false, [.o (.i .i64), .o (.sl false 1)]), (false, [.o (.sl false 1), .o (.sl false 3)]), (false, [.o (.i .i64), .o (.sl false 1), .o (.sl false 2)])]⟩
@[reducible] def xsMachineOk_15 : List (Ex × Sh) := [(.ret, ⟨[.one (.o (.pl 0 0 [])), .one (.o (.pl 1 0 [])), .one (.o .b), .one (.o (.i .i64))], [(false, [.o (.i .i64), .o (.sl false 1)]), (false, [.o (.sl false 1), .o (.sl false 3)]), (false, [.o (.i .i64), .o (.sl false 1), .o (.sl false 2)])]⟩), (.exit 4, ⟨[.one (.o (.pl 0 0 [])), .one (.o (.pl 1 0 [])), .one (.o .u), .one (.o (.i .i64))], [(false, [.o (.i .i64), .o (.sl false 1)]), (false, [.o (.sl false 1), .o (.sl false 3)]), (false, [.o (.i .i64), .o (.sl false 1), .o (.sl false 2)])]⟩)]
noncomputable def RsMachineOk_15 : KC xsMachineOk_15 (hsMachineOk_15.K → hsMachineOk_15.K) := fun k0 k1 nx v1 v2 v3 v4 v5 v6 v7 v8 v9 v10 v11 v12 v13 v14 => bif decide (v2 < (v14.length : Int)) then ix v2 v14 ((v14[Int.toNat v2]?).bind fun w3 => tRo [.int .i64] w3 fun n2 => bif decide (n2 ≥ v3) then k0 false v1 v3 v4 v5 v6 v7 v8 v9 v10 v11 v12 v13 v14 else nx v1 (W (v2 + 1)) v3 v4 v5 v6 v7 v8 v9 v10 v11 v12 v13 v14) else k1 v1 v3 v4 v5 v6 v7 v8 v9 v10 v11 v12 v13 v14
noncomputable def LsMachineOk_15 : Lp := ⟨15, [2, 3, 5, 6, 8], [2, 3, 4, 5], 3, 100, hsMachineOk_15, xsMachineOk_15, RsMachineOk_15⟩
@[reducible] def hsMachineOk_4 : Sh := ⟨[.one (.o (.pl 0 0 [])), .one (.o (.pl 1 0 [])), .one (.o (.i .i64))], [(false, [.o (.i .i64), .o (.sl false 1)]), (false, [.o (.sl false 1), .o (.sl false 3)])]⟩
@[reducible] def xsMachineOk_4 : List (Ex × Sh) := [(.ret, ⟨[.one (.o .b)], [(false, [.o (.i .i64), .o (.sl false 1)]), (false, [.o (.sl false 1), .o (.sl false 3)]), (false, [.o (.i .i64), .o (.sl false 1), .o (.sl false 2)])]⟩), (.exit 0, ⟨[.one (.o .u)], [(false, [.o (.i .i64), .o (.sl false 1)]), (false, [.o (.sl false 1), .o (.sl false 3)])]⟩)]
noncomputable def RsMachineOk_4 : KC xsMachineOk_4 (hsMachineOk_4.K → hsMachineOk_4.K) := fun k0 k1 nx v1 v2 v3 v4 v5 v6 v7 v8 => bif decide (v1 < (v8.length : Int)) then ix v1 v8 ((v8[Int.toNat v1]?).bind fun w1 => tRo [.int .i64, .sl 1, .sl 2] w1 fun n1 _ l1 _ l2 => ix v1 v4 ((v4[Int.toNat v1]?).bind fun w2 => tRo [.sl 4] w2 fun _ l3 => cV false [.bool] (Fsl01In [.one (.int n1), .one (.int 0), .one (.int (l3.length : Int))]) fun b3 => bif !b3 then k0 false v2 v3 v4 v5 v6 v7 v8 n1 none l1 none l2 else bif (l1.length : Int) != 4 then k0 false v2 v3 v4 v5 v6 v7 v8 n1 none l1 none l2 else cV false [.bool] (FsBufOk [.one (.sl false none 2 l2)]) fun b4 => bif !b4 then k0 false v2 v3 v4 v5 v6 v7 v8 n1 none l1 none l2 else iterC (RsMachineOk_10 (fun y1 y2 y3 y4 y5 y6 y7 y8 y9 y10 y11 y12 y13 y14 => k0 y1 y3 y4 y5 y6 y7 y8 y9 y10 y11 y12 y13 y14) (fun y15 y16 y17 y18 y19 y20 y21 y22 y23 y24 y25 y26 y27 => iterC (RsMachineOk_15 (fun y28 y29 y30 y31 y32 y33 y34 y35 y36 y37 y38 y39 y40 y41 => k0 y28 y30 y31 y32 y33 y34 y35 y36 y37 y38 y39 y40 y41) (fun y42 y43 y44 y45 y46 y47 y48 y49 y50 y51 y52 y53 y54 => nx (W (y42 + 1)) y43 y44 y45 y46 y47 y48 y49)) FUEL y15 0 y16 y17 y18 y19 y20 y21 y22 y23 y24 y25 y26 y27)) FUEL v1 0 v2 v3 v4 v5 v6 v7 v8 n1 none l1 none l2)) else k1 v2 v3 v4 v5 v6 v7 v8
noncomputable def LsMachineOk_4 : Lp := ⟨4, [2, 3, 5], [4], 2, 100, hsMachineOk_4, xsMachineOk_4, RsMachineOk_4⟩
noncomputable def QsMachineOk : Fx := ⟨Go.Proofs.Tryz.f39, [.ro, .ro], false, mkEnv tys_m12 [(40, Ssl01In), (71, SsProgOk), (72, SsMemOk), (73, SsBufOk), (74, Ssl01Value)] [], fun id => bif Nat.beq id 7 then .sq [0, 1, 2, 3, 4, 5, 6, 7, 8, 9, 10, 11, 12, 13, 14, 15, 16, 17, 18, 19, 20, 21] .stop else bif Nat.beq id 17 then .sq [0, 1, 2, 3, 4, 5, 6, 7, 8] .stop else .stop, [LsMachineOk_10, LsMachineOk_15, LsMachineOk_4]⟩
noncomputable def FsMachineOk : List S → Option Res := veil QsMachineOk.run
noncomputable def SsMachineOk : Spec := ⟨[.ro, .ro], false, FsMachineOk⟩
theorem msMachineOk (x1 : Int) (x2 : List (List C)) (x3 : List (List C)) (x4 : List (List C)) : FsMachineOk [.agg [.int x1, .sl false none 1 x2], .agg [.sl false none 1 x3, .sl false none 3 x4]] = cV false [.bool] (FsProgOk [.agg [.int x1, .sl false none 1 x2]]) fun b1 => bif !b1 then fr false 2 [.one (.bool false)] else cV false [.bool] (FsMemOk [.agg [.sl false none 1 x3]]) fun b2 => bif !b2 then fr false 2 [.one (.bool false)] else bif (x3.length : Int) != x1 then fr false 2 [.one (.bool false)] else bif (x4.length : Int) != (x2.length : Int) then fr false 2 [.one (.bool false)] else iterC (RsMachineOk_4 (fun y1 y2 y3 y4 y5 y6 y7 y8 y9 y10 y11 y12 y13 => fr false 2 [.one (.bool y1)]) (fun y14 y15 y16 y17 y18 y19 y20 => fr false 2 [.one (.bool true)])) FUEL 0 x1 none x2 none x3 none x4 := Fx.eq (by kernel_rfl)
theorem stsMachineOk_10 : LsMachineOk_10.Step QsMachineOk.E QsMachineOk.dr QsMachineOk.lp ((findLoop 10 QsMachineOk.code).getD .skip) := fun k nx v => by kernel_rfl
theorem stsMachineOk_15 : LsMachineOk_15.Step QsMachineOk.E QsMachineOk.dr QsMachineOk.lp ((findLoop 15 QsMachineOk.code).getD .skip) := fun k nx v => by kernel_rfl
theorem stsMachineOk_4 : LsMachineOk_4.Step QsMachineOk.E QsMachineOk.dr QsMachineOk.lp ((findLoop 4 QsMachineOk.code).getD .skip) := fun k nx v => by kernel_rfl
theorem oksMachineOk : CalleeOk Go.Proofs.Tryz.prog 39 SsMachineOk := Fx.ok (F := QsMachineOk) follows (envTy_mk tys_m12_eq) (envSpec_of (specsOk_cons oksl01In (specsOk_cons oksProgOk (specsOk_cons oksMemOk (specsOk_cons oksBufOk (specsOk_cons oksl01Value specsOk_nil)))))) Go.Proofs.Tryz.func39 (by kernel_rfl) (by kernel_rfl) (by
  rw [show subs QsMachineOk.code = [(findLoop 4 QsMachineOk.code).getD .skip, (findLoop 10 QsMachineOk.code).getD .skip, (findLoop 15 QsMachineOk.code).getD .skip] by kernel_rfl]
  exact ⟨stepAt_some (by kernel_rfl) stsMachineOk_4, stepAt_some (by kernel_rfl) stsMachineOk_10, stepAt_some (by kernel_rfl) stsMachineOk_15, trivial⟩) (by kernel_rfl) (by kernel_rfl) rfl
theorem FsMachineOk_at (p : Prog) (m : Machine) (h : bndL p.codes ∧ smallL m.cells ∧ bndT m.ths) : FsMachineOk [S.agg (encProg false p), S.agg (encMa false m)] = some (S.one (C.bool (progOk p && isMa p m)), [S.one C.unk, S.one C.unk]) := by
  obtain ⟨hb1, hb2, hb3⟩ := h
  rw [msMachineOk, FsProgOk_at _ hb1, FsMemOk_at _ hb2]
  simp only [List.length_map, isMa]
  cases h1 : progOk p
  · simp
  cases h2 : memOk m.cells
  · simp
  by_cases h3 : ¬ (m.cells.length : Int) = p.cells
  · have h3' : ((m.cells.length : Int) == p.cells) = false := by simpa using h3
    simp [h3, bne, h3']
  replace h3 := Decidable.not_not.1 h3
  by_cases h4 : ¬ m.ths.length = p.codes.length
  · have h4' : ((m.ths.length : Int) == (p.codes.length : Int)) = false := by simp; omega
    simp [h3, h4, bne, h4']
  replace h4 := Decidable.not_not.1 h4
  have e3 : ((m.cells.length : Int) != p.cells) = false := by simp [h3]
  have e4 : ((m.ths.length : Int) != (p.codes.length : Int)) = false := by simp [h4]
  have hz : (m.ths.zip p.codes).length = m.ths.length := by simp [h4]
  simp only [cV, Option.bind_some, tOne, tOwn, tRes, id, Bool.not_true, cond_false, Bool.true_and, e3, e4]
  refine (iter_all (h := hsMachineOk_4) (m.ths.zip p.codes) (fun t f => f (t : Int) p.cells none (p.codes.map (encCode false)) none (m.cells.map encInt) none (m.ths.map (encTh false))) (fun x => thOk p.cells x.1 x.2) (fr false 2 [.one (.bool true)]) (fr false 2 [.one (.bool false)]) (by have := hb3.1; omega) ?_ ?_).trans ?_
  · intro nx; rw [hz]; simp [RsMachineOk_4]
  · intro nx t ht hW
    have ht1 : t < m.ths.length := by omega
    have ht2 : t < p.codes.length := by omega
    have hbt := hb3.2 _ (List.getElem_mem ht1)
    have hbuf := iter_all (h := hsMachineOk_15) (fb := RsMachineOk_15 (fun y28 y29 y30 y31 y32 y33 y34 y35 y36 y37 y38 y39 y40 y41 => fr false 2 [.one (.bool y28)]) (fun y42 y43 y44 y45 y46 y47 y48 y49 y50 y51 y52 y53 y54 => nx (W (y42 + 1)) y43 y44 y45 y46 y47 y48 y49)) m.ths[t].buf
      (fun j f => f (t : Int) (j : Int) p.cells none (p.codes.map (encCode false)) none (m.cells.map encInt) none (m.ths.map (encTh false)) m.ths[t].pc none (m.ths[t].vals.map encInt) none (m.ths[t].buf.map encSlot)) (fun s => decide (s.a < p.cells))
      (nx ((t : Int) + 1) p.cells none (p.codes.map (encCode false)) none (m.cells.map encInt) none (m.ths.map (encTh false))) (fr false 2 [.one (.bool false)]) (by omega) (by intro nx2; simp [RsMachineOk_15, hW]) (by
        intro nx2 j hj hW2
        by_cases e : m.ths[t].buf[j].a < p.cells
        · have e' : ¬ m.ths[t].buf[j].a ≥ p.cells := by omega
          simp [RsMachineOk_15, hj, hW2, e, e']
        · have e' : m.ths[t].buf[j].a ≥ p.cells := by omega
          simp [RsMachineOk_15, hj, hW2, e, e'])
    have hvals := iter_all (h := hsMachineOk_10) (fb := RsMachineOk_10 (fun y1 y2 y3 y4 y5 y6 y7 y8 y9 y10 y11 y12 y13 y14 => fr false 2 [.one (.bool y1)]) (fun y15 y16 y17 y18 y19 y20 y21 y22 y23 y24 y25 y26 y27 => iterC (RsMachineOk_15 (fun y28 y29 y30 y31 y32 y33 y34 y35 y36 y37 y38 y39 y40 y41 => fr false 2 [.one (.bool y28)]) (fun y42 y43 y44 y45 y46 y47 y48 y49 y50 y51 y52 y53 y54 => nx (W (y42 + 1)) y43 y44 y45 y46 y47 y48 y49)) FUEL y15 0 y16 y17 y18 y19 y20 y21 y22 y23 y24 y25 y26 y27)) m.ths[t].vals
      (fun j f => f (t : Int) (j : Int) p.cells none (p.codes.map (encCode false)) none (m.cells.map encInt) none (m.ths.map (encTh false)) m.ths[t].pc none (m.ths[t].vals.map encInt) none (m.ths[t].buf.map encSlot)) isV
      (bif m.ths[t].buf.all (fun s => decide (s.a < p.cells)) then nx ((t : Int) + 1) p.cells none (p.codes.map (encCode false)) none (m.cells.map encInt) none (m.ths.map (encTh false)) else fr false 2 [.one (.bool false)]) (fr false 2 [.one (.bool false)]) (by omega) (by
        intro nx2
        rw [← hbuf]
        simp [RsMachineOk_10]) (by
        intro nx2 j hj hW2
        simp [RsMachineOk_10, hj, hW2, Fsl01Value_at]
        try (cases isV m.ths[t].vals[j] <;> simp))
    simp only [List.getElem_zip, thOk]
    by_cases hv4 : m.ths[t].vals.length = 4
    · have hv4' : ((m.ths[t].vals.length : Int) != 4) = false := by simp [hv4]
      cases hpc : inB m.ths[t].pc 0 p.codes[t].length
      · simp [RsMachineOk_4, ht1, ht2, Fsl01In_at, hpc]
      · cases hbo : bufOk m.ths[t].buf
        · simp [RsMachineOk_4, ht1, ht2, Fsl01In_at, hpc, hv4', FsBufOk_at none _ hbt.2, hbo]
        · simp only [RsMachineOk_4]
          simp only [Int.natCast_zero] at hvals
          simp only [hv4, beq_self_eq_true, Bool.true_and]
          refine Eq.trans ?_ (hvals.trans ?_)
          · simp [ht1, ht2, Fsl01In_at, hpc, hv4', FsBufOk_at none _ hbt.2, hbo]
          · cases m.ths[t].vals.all isV <;> cases m.ths[t].buf.all (fun s => decide (s.a < p.cells)) <;> simp
    · have hv4' : ((m.ths[t].vals.length : Int) != 4) = true := by simp; omega
      have hv5 : (m.ths[t].vals.length == 4) = false := by simpa using hv4
      cases hpc : inB m.ths[t].pc 0 p.codes[t].length <;> simp [RsMachineOk_4, ht1, ht2, Fsl01In_at, hpc, hv4', hv5]
  · simp only [h3, h4, decide_true, Bool.true_and]
    cases (m.ths.zip p.codes).all fun x => thOk p.cells x.1 x.2 <;> simp
end Go.Proofs.Gh.Gm
set_option linter.unusedVariables false
set_option linter.unusedSimpArgs false
set_option maxRecDepth 100000
set_option maxHeartbeats 2000000
namespace Go.Proofs.Gh.Gm
def tys_m13 : List (Nat × TI) := [(3, ⟨false, 8, [.int .i64], [.int 0], .scalar, false⟩),
  (4, ⟨false, 1, [.bool], [.bool false], .scalar, false⟩),
  (36, ⟨false, 24, [.sl 3], [.sl true (some true) 3 []], .slice 75, false⟩),
  (38, ⟨true, 48, [.sl 1, .sl 3], [.sl true (some true) 1 [], .sl true (some true) 3 []], .struct [(0, 1, true), (1, 1, false)], false⟩),
  (41, ⟨false, 24, [.sl 1], [.sl true (some true) 1 []], .slice 76, false⟩),
  (43, ⟨true, 32, [.int .i64, .sl 1], [.int 0, .sl true (some true) 1 []], .struct [(0, 1, false), (1, 1, false)], false⟩),
  (46, ⟨true, 16, [.int .i64, .bool], [.int 0, .bool false], .struct [(0, 1, false), (1, 1, false)], true⟩),
  (73, ⟨false, 24, [.sl 2], [.sl true (some true) 2 []], .slice 90, false⟩),
  (75, ⟨true, 56, [.int .i64, .sl 1, .sl 2], [.int 0, .sl true (some true) 1 [], .sl true (some true) 2 []], .struct [(0, 1, false), (1, 1, false), (2, 1, false)], false⟩),
  (76, ⟨false, 24, [.sl 4], [.sl true (some true) 4 []], .slice 92, false⟩),
  (92, ⟨true, 32, [.int .i64, .int .i64, .int .i64, .int .i64], [.int 0, .int 0, .int 0, .int 0], .struct [(0, 1, false), (1, 1, false), (2, 1, false), (3, 1, false)], true⟩)]
theorem tys_m13_eq : tys_m13.map (fun x => tiOf Go.Proofs.Tryz.prog x.1 x.2.cks) = tys_m13.map fun x => some x.2 := by kernel_rfl
/-! sl04Can: loop.example/g00712/spec.l04Can -/
noncomputable def Qsl04Can : Fx := ⟨Go.Proofs.Tryz.f48, [.ro, .ro, .ro], false, mkEnv tys_m13 [(80, SsHasFence)] [], fun id => bif Nat.beq id 4 then .sq [0, 1, 2, 3, 4, 5, 6, 7, 8, 9] .stop else bif Nat.beq id 6 then .sq [0, 1, 2, 3, 4, 5, 6, 7, 8, 9, 10, 11] .stop else .stop, []⟩
noncomputable def Fsl04Can : List S → Option Res := veil Qsl04Can.run
noncomputable def Ssl04Can : Spec := ⟨[.ro, .ro, .ro], false, Fsl04Can⟩
theorem msl04Can (x1 : Int) (x2 : List (List C)) (x3 : List (List C)) (x4 : List (List C)) (x5 : Int) (x6 : Bool) : Fsl04Can [.agg [.int x1, .sl false none 1 x2], .agg [.sl false none 1 x3, .sl false none 3 x4], .agg [.int x5, .bool x6]] = ix x5 x4 ((x4[Int.toNat x5]?).bind fun w1 => tRo [.int .i64, .sl 1, .sl 2] w1 fun n1 _ l1 _ l2 => bif x6 then fr false 3 [.one (.bool (decide ((l2.length : Int) > 0)))] else ix x5 x2 ((x2[Int.toNat x5]?).bind fun w2 => tRo [.sl 4] w2 fun _ l3 => bif n1 == (l3.length : Int) then fr false 3 [.one (.bool false)] else ix x5 x2 ((x2[Int.toNat x5]?).bind fun w3 => tRo [.sl 4] w3 fun _ l4 => ix n1 l4 ((l4[Int.toNat n1]?).bind fun w4 => tRo [.int .i64, .int .i64, .int .i64, .int .i64] w4 fun n2 n3 n4 n5 => bif n2 == 3 then fr false 3 [.one (.bool (decide ((l2.length : Int) < 3)))] else cV false [.bool] (FsHasFence [.agg [.int n2, .int n3, .int n4, .int n5]]) fun b1 => bif !b1 then fr false 3 [.one (.bool true)] else fr false 3 [.one (.bool ((l2.length : Int) == 0))])))) := Fx.eq (by kernel_rfl)
theorem oksl04Can : CalleeOk Go.Proofs.Tryz.prog 48 Ssl04Can := Fx.ok (F := Qsl04Can) follows (envTy_mk tys_m13_eq) (envSpec_of (specsOk_cons oksHasFence specsOk_nil)) Go.Proofs.Tryz.func48 (by kernel_rfl) (by kernel_rfl) (by rw [show subs Qsl04Can.code = [] by kernel_rfl]; trivial) (by kernel_rfl) (by kernel_rfl) rfl
theorem Fsl04Can_at (p : Prog) (m : Machine) (t : Int) (dr : Bool) (h : isMa p m = true ∧ 0 ≤ t ∧ t < m.ths.length) : Fsl04Can [S.agg (encProg false p), S.agg (encMa false m), S.agg [C.int t, C.bool dr]] = some (S.one (C.bool (canMv p m t dr)), [S.one C.unk, S.one C.unk, S.one C.unk]) := by
  obtain ⟨h1, h2, h3⟩ := h
  obtain ⟨n, rfl⟩ := Int.eq_ofNat_of_zero_le h2
  have hn : n < m.ths.length := by omega
  obtain ⟨hc, hth⟩ := isMa_th h1 hn
  obtain ⟨⟨hp1, hp2⟩, _⟩ := thOk_iff.1 hth
  obtain ⟨k, hk⟩ := Int.eq_ofNat_of_zero_le hp1
  have hin : inB (n : Int) 0 ((m.ths.length : Int) - 1) = true := by simp [inB]; omega
  rw [msl04Can]
  simp only [canMv, hin, Bool.true_and, Int.toNat_natCast, List.getElem?_eq_getElem hn, List.getElem?_eq_getElem hc]
  cases dr
  · by_cases e : k = p.codes[n].length
    · have e1 : p.codes[n][k]? = none := by simp [e]
      simp [hn, hc, hk, e, e1]
    · have hkl : k < p.codes[n].length := by omega
      have e2 : ((k : Int) == (p.codes[n].length : Int)) = false := by simp; omega
      simp [hn, hc, hk, e2, hkl, FsHasFence_at p.codes[n][k]]
      have eb : ((m.ths[n].buf.length : Int) == 0) = (m.ths[n].buf.length == 0) := by rw [Bool.eq_iff_iff]; simp
      cases (p.codes[n][k].op == 3)
      · cases fenceI p.codes[n][k] <;> simp [eb]
      · simp; omega
  · simp [hn, hc]
/-! sCanMove: loop.example/g00712/spec.CanMove -/
noncomputable def QsCanMove : Fx := ⟨Go.Proofs.Tryz.f22, [.ro, .ro, .ro], false, mkEnv tys_m13 [(39, SsMachineOk), (40, Ssl01In), (48, Ssl04Can)] [], fun _ => .stop, []⟩
noncomputable def FsCanMove : List S → Option Res := veil QsCanMove.run
noncomputable def SsCanMove : Spec := ⟨[.ro, .ro, .ro], false, FsCanMove⟩
theorem msCanMove (x1 : Int) (x2 : List (List C)) (x3 : List (List C)) (x4 : List (List C)) (x5 : Int) (x6 : Bool) : FsCanMove [.agg [.int x1, .sl false none 1 x2], .agg [.sl false none 1 x3, .sl false none 3 x4], .agg [.int x5, .bool x6]] = cV false [.bool] (FsMachineOk [.agg [.int x1, .sl false none 1 x2], .agg [.sl false none 1 x3, .sl false none 3 x4]]) fun b1 => bif b1 then cV false [.bool] (Fsl01In [.one (.int x5), .one (.int 0), .one (.int (W ((x2.length : Int) - 1)))]) fun b2 => bif b2 then cV false [.bool] (Fsl04Can [.agg [.int x1, .sl false none 1 x2], .agg [.sl false none 1 x3, .sl false none 3 x4], .agg [.int x5, .bool x6]]) fun b3 => fr false 3 [.one (.bool b3)] else fr false 3 [.one (.bool false)] else fr false 3 [.one (.bool false)] := Fx.eq (by kernel_rfl)
theorem oksCanMove : CalleeOk Go.Proofs.Tryz.prog 22 SsCanMove := Fx.ok (F := QsCanMove) follows (envTy_mk tys_m13_eq) (envSpec_of (specsOk_cons oksMachineOk (specsOk_cons oksl01In (specsOk_cons oksl04Can specsOk_nil)))) Go.Proofs.Tryz.func22 (by kernel_rfl) (by kernel_rfl) (by rw [show subs QsCanMove.code = [] by kernel_rfl]; trivial) (by kernel_rfl) (by kernel_rfl) rfl
theorem FsCanMove_at (p : Prog) (m : Machine) (t : Int) (dr : Bool) (h : bndL p.codes ∧ smallL m.cells ∧ bndT m.ths) : FsCanMove [S.agg (encProg false p), S.agg (encMa false m), S.agg [C.int t, C.bool dr]] = some (S.one (C.bool (canP p m t dr)), [S.one C.unk, S.one C.unk, S.one C.unk]) := by
  rw [msCanMove, FsMachineOk_at p m h]
  simp only [canP]
  cases h1 : progOk p
  · simp
  cases h2 : isMa p m
  · simp
  have hl := (isMa_iff.1 h2).2.2.1
  have hb := isMa_bT h1 h2
  have hw : W ((p.codes.length : Int) - 1) = (p.codes.length : Int) - 1 := W_eq (by omega) (by omega)
  simp only [List.length_map, hw, Fsl01In_at]
  cases hi : inB t 0 ((p.codes.length : Int) - 1)
  · have hi' : inB t 0 ((m.ths.length : Int) - 1) = false := by rw [hl]; exact hi
    simp [canMv, hi']
  · have hi' := hi
    simp only [inB, Bool.and_eq_true, decide_eq_true_eq] at hi'
    simp [Fsl04Can_at p m t dr ⟨h2, hi'.1, by omega⟩]
end Go.Proofs.Gh.Gm
set_option linter.unusedVariables false
set_option linter.unusedSimpArgs false
set_option maxRecDepth 100000
set_option maxHeartbeats 2000000
namespace Go.Proofs.Gh.Gm
def tys_m14 : List (Nat × TI) := [(3, ⟨false, 8, [.int .i64], [.int 0], .scalar, false⟩),
  (4, ⟨false, 1, [.bool], [.bool false], .scalar, false⟩),
  (25, ⟨false, 24, [.sl 1], [.sl true (some true) 1 []], .slice 3, false⟩),
  (35, ⟨true, 24, [.sl 1], [.sl true (some true) 1 []], .struct [(0, 1, false)], false⟩),
  (36, ⟨false, 24, [.sl 3], [.sl true (some true) 3 []], .slice 75, false⟩),
  (38, ⟨true, 48, [.sl 1, .sl 3], [.sl true (some true) 1 [], .sl true (some true) 3 []], .struct [(0, 1, true), (1, 1, false)], false⟩),
  (41, ⟨false, 24, [.sl 1], [.sl true (some true) 1 []], .slice 76, false⟩),
  (43, ⟨true, 32, [.int .i64, .sl 1], [.int 0, .sl true (some true) 1 []], .struct [(0, 1, false), (1, 1, false)], false⟩),
  (46, ⟨true, 16, [.int .i64, .bool], [.int 0, .bool false], .struct [(0, 1, false), (1, 1, false)], true⟩),
  (73, ⟨false, 24, [.sl 2], [.sl true (some true) 2 []], .slice 90, false⟩),
  (75, ⟨true, 56, [.int .i64, .sl 1, .sl 2], [.int 0, .sl true (some true) 1 [], .sl true (some true) 2 []], .struct [(0, 1, false), (1, 1, false), (2, 1, false)], false⟩),
  (76, ⟨false, 24, [.sl 4], [.sl true (some true) 4 []], .slice 92, false⟩),
  (90, ⟨true, 16, [.int .i64, .int .i64], [.int 0, .int 0], .struct [(0, 1, false), (1, 1, false)], true⟩),
  (92, ⟨true, 32, [.int .i64, .int .i64, .int .i64, .int .i64], [.int 0, .int 0, .int 0, .int 0], .struct [(0, 1, false), (1, 1, false), (2, 1, false), (3, 1, false)], true⟩)]
theorem tys_m14_eq : tys_m14.map (fun x => tiOf Go.Proofs.Tryz.prog x.1 x.2.cks) = tys_m14.map fun x => some x.2 := by kernel_rfl
def mkMa (m : Machine) (k : Int) : Machine := ⟨mkIntS m.cells.length k, mkThs m.ths (k + m.cells.length)⟩
def maN (m : Machine) : Int := m.cells.length + thsN m.ths
/-! wmarkMem: loop.example/g00712/laws.markMem -/
noncomputable def QwmarkMem : Fx := ⟨Go.Proofs.Tryz.f35, [.io, .ro], false, (mkEnv tys_m14 [(67, SwmarkIntS)] [(67, [.sl 1])]).paS, fun _ => .stop, []⟩
noncomputable def FwmarkMem : List S → Option Res := veil QwmarkMem.run
noncomputable def SwmarkMem : Spec := ⟨[.io, .ro], false, FwmarkMem⟩
theorem mwmarkMem (x1 : List (List C)) (x2 : Int) : FwmarkMem [.agg [.sl true none 1 x1], .one (.int x2)] = cOV [.sl 1] false [.int .i64] (FwmarkIntS [.one (.sl true none 1 x1), .one (.int x2)]) fun o1 l1 n1 => fin false [.agg [.sl true none 1 x1], .one (.int x2)] [.one (.int n1)] [.agg [.sl true o1 1 l1], .one .unk] := Fx.eq (by kernel_rfl)
theorem okwmarkMem : CalleeOk Go.Proofs.Tryz.prog 35 SwmarkMem := Fx.ok (F := QwmarkMem) follows (envTy_mk tys_m14_eq).paS (envSpec_of (specsOk_cons okwmarkIntS specsOk_nil)).paS Go.Proofs.Tryz.func35 (by kernel_rfl) (by kernel_rfl) (by rw [show subs QwmarkMem.code = [] by kernel_rfl]; trivial) (by kernel_rfl) (by kernel_rfl) rfl
theorem FwmarkMem_at (l : List Int) (k : Int) (h : l.length ≤ 1048576 ∧ 0 ≤ k ∧ k ≤ 1152921504606846976) : FwmarkMem [S.agg [C.sl true none 1 (l.map encInt)], S.one (C.int k)] = some (S.one (C.int (k + (l.length : Int))), [S.agg [C.sl true none 1 ((mkIntS l.length k).map encInt)], S.one C.unk]) := by
  simp [mwmarkMem, FwmarkIntS_at _ _ _ h]
/-! wmarkMachine: loop.example/g00712/laws.markMachine -/
noncomputable def QwmarkMachine : Fx := ⟨Go.Proofs.Tryz.f15, [.io, .ro], false, (mkEnv tys_m14 [(35, SwmarkMem), (36, SwmarkThreadS)] [(35, [.agg [.sl 1]]), (36, [.sl 3])]).paS, fun _ => .stop, []⟩
noncomputable def FwmarkMachine : List S → Option Res := veil QwmarkMachine.run
noncomputable def SwmarkMachine : Spec := ⟨[.io, .ro], false, FwmarkMachine⟩
theorem mwmarkMachine (x1 : List (List C)) (x2 : List (List C)) (x3 : Int) : FwmarkMachine [.agg [.sl true none 1 x1, .sl true none 3 x2], .one (.int x3)] = cOV [.agg [.sl 1]] false [.int .i64] (FwmarkMem [.agg [.sl true none 1 x1], .one (.int x3)]) fun o1 l1 n1 => cOV [.sl 3] false [.int .i64] (FwmarkThreadS [.one (.sl true none 3 x2), .one (.int n1)]) fun o2 l2 n2 => fin false [.agg [.sl true none 1 x1, .sl true none 3 x2], .one (.int x3)] [.one (.int n2)] [.agg [.sl true o1 1 l1, .sl true o2 3 l2], .one .unk] := Fx.eq (by kernel_rfl)
theorem okwmarkMachine : CalleeOk Go.Proofs.Tryz.prog 15 SwmarkMachine := Fx.ok (F := QwmarkMachine) follows (envTy_mk tys_m14_eq).paS (envSpec_of (specsOk_cons okwmarkMem (specsOk_cons okwmarkThreadS specsOk_nil))).paS Go.Proofs.Tryz.func15 (by kernel_rfl) (by kernel_rfl) (by rw [show subs QwmarkMachine.code = [] by kernel_rfl]; trivial) (by kernel_rfl) (by kernel_rfl) rfl
theorem FwmarkMachine_at (m : Machine) (k : Int) (h : m.cells.length ≤ 1048576 ∧ bT m.ths ∧ 0 ≤ k ∧ k + m.cells.length + thsN m.ths ≤ 1152921504606846976) : FwmarkMachine [S.agg (encMa true m), S.one (C.int k)] = some (S.one (C.int (k + maN m)), [S.agg (encMa true (mkMa m k)), S.one C.unk]) := by
  obtain ⟨h1, h2, h3, h4⟩ := h
  have hp := thsN_pos m.ths
  have a := FwmarkMem_at m.cells k ⟨h1, h3, by omega⟩
  have b := FwmarkThreadS_at none m.ths (k + m.cells.length) ⟨h2, by omega, by omega⟩
  simp [mwmarkMachine, a, b, mkMa, maN, Int.add_assoc]
/-! wheldMem: loop.example/g00712/laws.heldMem -/
noncomputable def QwheldMem : Fx := ⟨Go.Proofs.Tryz.f37, [.ro, .ro], false, mkEnv tys_m14 [(69, SwheldIntS)] [], fun _ => .stop, []⟩
noncomputable def FwheldMem : List S → Option Res := veil QwheldMem.run
noncomputable def SwheldMem : Spec := ⟨[.ro, .ro], false, FwheldMem⟩
theorem mwheldMem (x1 : List (List C)) (x2 : Int) : FwheldMem [.agg [.sl false none 1 x1], .one (.int x2)] = cV false [.int .i64] (FwheldIntS [.one (.sl false none 1 x1), .one (.int x2)]) fun n1 => bif decide (n1 < 0) then fr false 2 [.one (.int (-1))] else fr false 2 [.one (.int n1)] := Fx.eq (by kernel_rfl)
theorem okwheldMem : CalleeOk Go.Proofs.Tryz.prog 37 SwheldMem := Fx.ok (F := QwheldMem) follows (envTy_mk tys_m14_eq) (envSpec_of (specsOk_cons okwheldIntS specsOk_nil)) Go.Proofs.Tryz.func37 (by kernel_rfl) (by kernel_rfl) (by rw [show subs QwheldMem.code = [] by kernel_rfl]; trivial) (by kernel_rfl) (by kernel_rfl) rfl
theorem FwheldMem_at (n : Nat) (k : Int) (h : n ≤ 1048576 ∧ 0 ≤ k ∧ k ≤ 1152921504606846976) : FwheldMem [S.agg [C.sl false none 1 ((mkIntS n k).map encInt)], S.one (C.int k)] = some (S.one (C.int (k + (n : Int))), [S.one C.unk, S.one C.unk]) := by
  have e : ¬ k + (n : Int) < 0 := by omega
  simp [mwheldMem, FwheldIntS_at _ _ _ h, e]
/-! wheldMachine: loop.example/g00712/laws.heldMachine -/
noncomputable def QwheldMachine : Fx := ⟨Go.Proofs.Tryz.f16, [.ro, .ro], false, mkEnv tys_m14 [(37, SwheldMem), (38, SwheldThreadS)] [], fun _ => .stop, []⟩
noncomputable def FwheldMachine : List S → Option Res := veil QwheldMachine.run
noncomputable def SwheldMachine : Spec := ⟨[.ro, .ro], false, FwheldMachine⟩
theorem mwheldMachine (x1 : List (List C)) (x2 : List (List C)) (x3 : Int) : FwheldMachine [.agg [.sl false none 1 x1, .sl false none 3 x2], .one (.int x3)] = cV false [.int .i64] (FwheldMem [.agg [.sl false none 1 x1], .one (.int x3)]) fun n1 => bif decide (n1 < 0) then fr false 2 [.one (.int (-1))] else cV false [.int .i64] (FwheldThreadS [.one (.sl false none 3 x2), .one (.int n1)]) fun n2 => bif decide (n2 < 0) then fr false 2 [.one (.int (-1))] else fr false 2 [.one (.int n2)] := Fx.eq (by kernel_rfl)
theorem okwheldMachine : CalleeOk Go.Proofs.Tryz.prog 16 SwheldMachine := Fx.ok (F := QwheldMachine) follows (envTy_mk tys_m14_eq) (envSpec_of (specsOk_cons okwheldMem (specsOk_cons okwheldThreadS specsOk_nil))) Go.Proofs.Tryz.func16 (by kernel_rfl) (by kernel_rfl) (by rw [show subs QwheldMachine.code = [] by kernel_rfl]; trivial) (by kernel_rfl) (by kernel_rfl) rfl
theorem FwheldMachine_at (m : Machine) (k : Int) (h : m.cells.length ≤ 1048576 ∧ bT m.ths ∧ 0 ≤ k ∧ k + m.cells.length + thsN m.ths ≤ 1152921504606846976) : FwheldMachine [S.agg (encMa false (mkMa m k)), S.one (C.int k)] = some (S.one (C.int (k + maN m)), [S.one C.unk, S.one C.unk]) := by
  obtain ⟨h1, h2, h3, h4⟩ := h
  have hp := thsN_pos m.ths
  have a := FwheldMem_at m.cells.length k ⟨h1, h3, by omega⟩
  have b := FwheldThreadS_at none m.ths (k + m.cells.length) ⟨h2, by omega, by omega⟩
  have e1 : ¬ k + (m.cells.length : Int) < 0 := by omega
  have e2 : ¬ k + (m.cells.length : Int) + thsN m.ths < 0 := by omega
  have e3 : k + maN m = k + (m.cells.length : Int) + thsN m.ths := by unfold maN; omega
  simp [mwheldMachine, a, b, mkMa, e1, e2, e3]
theorem readT_foldl (b : List Slot) (c : List Int) (a : Int) : b.foldl (fun o s => if s.a = a then s.v else o) (c[a.toNat]?.getD 0) = readT b c a := by
  have key : ∀ (b : List Slot) (o : Int), b.foldl (fun o s => if s.a = a then s.v else o) o = match b.reverse.find? fun s => s.a == a with
      | some s => s.v
      | none => o := by
    intro b
    induction b with
    | nil => intro o; rfl
    | cons s b ih =>
      intro o
      rw [List.foldl_cons, ih, List.reverse_cons, List.find?_append]
      cases (b.reverse.find? fun s => s.a == a) with
      | some x => rfl
      | none =>
        by_cases e : s.a = a
        · simp [e]
        · have e' : (s.a == a) = false := by simpa using e
          simp [e, e']
  rw [key]
  rfl
/-! sReadThrough: loop.example/g00712/spec.ReadThrough -/
@[reducible] def hsReadThrough_5 : Sh := ⟨[.one (.o (.sl false 2)), .one (.o (.i .i64)), .one (.o (.i .i64)), .one (.o (.i .i64))], [(false, [.o (.sl false 1)])]⟩
@[reducible] def xsReadThrough_5 : List (Ex × Sh) := [(.exit 0, ⟨[.one (.o (.i .i64))], [(false, [.o (.sl false 1)])]⟩)]
noncomputable def RsReadThrough_5 : KC xsReadThrough_5 (hsReadThrough_5.K → hsReadThrough_5.K) := fun k0 nx v1 v2 v3 v4 v5 v6 v7 => bif decide (v5 < (v2.length : Int)) then ix v5 v2 ((v2[Int.toNat v5]?).bind fun w1 => tRo [.int .i64] w1 fun n2 => bif n2 == v3 then ix v5 v2 ((v2[Int.toNat v5]?).bind fun w2 => tRo [.int .i64] (List.drop 1 w2) fun n3 => nx v1 v2 v3 n3 (W (v5 + 1)) v6 v7) else nx v1 v2 v3 v4 (W (v5 + 1)) v6 v7) else k0 v4 v6 v7
noncomputable def LsReadThrough_5 : Lp := ⟨5, [0, 2, 7, 8], [7], 1, 39, hsReadThrough_5, xsReadThrough_5, RsReadThrough_5⟩
noncomputable def QsReadThrough : Fx := ⟨Go.Proofs.Tryz.f53, [.ro, .ro, .ro], false, mkEnv tys_m14 [(72, SsMemOk), (73, SsBufOk), (81, SsPeek)] [], fun _ => .stop, [LsReadThrough_5]⟩
noncomputable def FsReadThrough : List S → Option Res := veil QsReadThrough.run
noncomputable def SsReadThrough : Spec := ⟨[.ro, .ro, .ro], false, FsReadThrough⟩
theorem msReadThrough (x1 : Option Bool) (x2 : List (List C)) (x3 : List (List C)) (x4 : Int) : FsReadThrough [.one (.sl false x1 2 x2), .agg [.sl false none 1 x3], .one (.int x4)] = cV false [.bool] (FsBufOk [.one (.sl false x1 2 x2)]) fun b1 => bif !b1 then fr false 3 [.one (.int 0)] else cV false [.bool] (FsMemOk [.agg [.sl false none 1 x3]]) fun b2 => bif !b2 then fr false 3 [.one (.int 0)] else cV false [.int .i64] (FsPeek [.agg [.sl false none 1 x3], .one (.int x4)]) fun n1 => iterC (RsReadThrough_5 (fun y1 y2 y3 => fr false 3 [.one (.int y1)])) FUEL x1 x2 x4 n1 0 none x3 := Fx.eq (by kernel_rfl)
theorem stsReadThrough_5 : LsReadThrough_5.Step QsReadThrough.E QsReadThrough.dr QsReadThrough.lp ((findLoop 5 QsReadThrough.code).getD .skip) := fun k nx v => by kernel_rfl
theorem oksReadThrough : CalleeOk Go.Proofs.Tryz.prog 53 SsReadThrough := Fx.ok (F := QsReadThrough) follows (envTy_mk tys_m14_eq) (envSpec_of (specsOk_cons oksMemOk (specsOk_cons oksBufOk (specsOk_cons oksPeek specsOk_nil)))) Go.Proofs.Tryz.func53 (by kernel_rfl) (by kernel_rfl) (by
  rw [show subs QsReadThrough.code = [(findLoop 5 QsReadThrough.code).getD .skip] by kernel_rfl]
  exact ⟨stepAt_some (by kernel_rfl) stsReadThrough_5, trivial⟩) (by kernel_rfl) (by kernel_rfl) rfl
theorem FsReadThrough_at (nl : Option Bool) (b : List Slot) (l : List Int) (a : Int) (h : l.length ≤ 1048576 ∧ memOk l = true ∧ bufOk b = true ∧ 0 ≤ a ∧ a < l.length) : FsReadThrough [S.one (C.sl false nl 2 (b.map encSlot)), S.agg [C.sl false none 1 (l.map encInt)], S.one (C.int a)] = some (S.one (C.int (readT b l a)), [S.one C.unk, S.one C.unk, S.one C.unk]) := by
  obtain ⟨h1, h2, h3, h4, h5⟩ := h
  have hb : b.length ≤ 3 := by
    simp only [bufOk, Bool.and_eq_true, decide_eq_true_eq] at h3; exact h3.1
  rw [msReadThrough, FsBufOk_at _ _ (show smallL b by omega), FsMemOk_at _ (show smallL l by omega), FsPeek_at _ _ ⟨h1, h2, h4, h5⟩, h2, h3]
  simp only [cV, Option.bind_some, tOne, tOwn, tRes, id, Bool.not_true, cond_false]
  refine (iter_fold (h := hsReadThrough_5) b (fun i (o : Int) f => f nl (b.map encSlot) a o (i : Int) none (l.map encInt)) (fun o s => if s.a = a then s.v else o) (fun o => fr false 3 [.one (.int o)]) (fun _ _ => True) (by omega) ?_ ?_ (l[a.toNat]?.getD 0) trivial).trans ?_
  · intro nx o _; simp [RsReadThrough_5]
  · intro nx i o hi _ hW
    refine ⟨trivial, ?_⟩
    by_cases e : b[i].a = a
    · simp [RsReadThrough_5, hi, hW, e]
    · have e' : (b[i].a == a) = false := by simpa using e
      simp [RsReadThrough_5, hi, hW, e, e']
  · rw [readT_foldl]; simp
@[simp] theorem md_length (es : List (List C)) (i j : Nat) (c : C) : (md es i j c).length = es.length := by simp [md]
@[simp] theorem ix_md (x : Int) (es : List (List C)) (i j : Nat) (c : C) (k : Option Res) : ix x (md es i j c) k = ix x es k := by simp [ix]
theorem md_self (es : List (List C)) (i j : Nat) (c : C) : (md es i j c)[i]? = (es[i]?).map fun row => row.modify j (plant [] c) := by simp [md, List.getElem?_modify]
theorem md_all {l : List Thread} {n : Nat} (hn : n < l.length) (a : Int) (v : List Int) (b : List Slot) : md (md (md (md (md (l.map (encTh true)) n 1 .unk) n 2 .unk) n 0 (.int a)) n 1 (.sl true none 1 (v.map encInt))) n 2 (.sl true none 2 (b.map encSlot)) = (l.set n ⟨a, v, b⟩).map (encTh true) := by
  apply List.ext_getElem?
  intro k
  simp only [md, List.getElem?_modify, List.getElem?_map, List.getElem?_set]
  by_cases e : n = k
  · subst e; simp [hn]
  · simp [e]
theorem md_allP {l : List Thread} {n : Nat} (hn : n < l.length) (a : Int) (v : List Int) (b : List Slot) (x y : Int) : md (md (md (md (md (l.map (encTh true)) n 1 .unk) n 2 .unk) n 0 (.int a)) n 1 (.sl true none 1 (v.map encInt))) n 2 (.sl true none 2 (b.map encSlot ++ [[.int x, .int y]])) = (l.set n ⟨a, v, b ++ [⟨x, y⟩]⟩).map (encTh true) := by
  have := md_all hn a v (b ++ [⟨x, y⟩])
  rwa [List.map_append] at this
/-! sl04Do: loop.example/g00712/spec.l04Do -/
noncomputable def Qsl04Do : Fx := ⟨Go.Proofs.Tryz.f24, [.ro, .ro, .ro], false, mkEnv tys_m14 [(23, Ssl04Copy), (52, SsClamp), (53, SsReadThrough)] [], fun id => bif Nat.beq id 4 then .sq [0, 1, 2, 3, 4, 5, 6, 7, 8, 9, 10, 11, 12, 13, 14] .stop else bif Nat.beq id 8 then .sq [0, 1, 2, 3, 4, 5, 6, 7, 8, 9, 10, 11] .stop else bif Nat.beq id 15 then .sq [0, 1, 2, 3, 4, 5, 6, 7, 8, 9, 10, 11, 12, 13, 14, 15, 16] .stop else bif Nat.beq id 17 then .sq [0, 1, 2, 3, 4, 5, 6, 7, 8, 9, 10, 11] .stop else bif Nat.beq id 19 then .sq [0, 1, 2, 3, 4, 5, 6, 7, 8, 9, 10, 11, 12, 13] .stop else bif Nat.beq id 21 then .sq [0, 1, 2, 3, 4, 5, 6, 7, 8, 9, 10, 11, 12] .stop else bif Nat.beq id 22 then .sq [0, 1, 2, 3, 4, 5, 6, 7, 8, 9, 10, 11] .stop else bif Nat.beq id 30 then .sq [0, 1, 2, 3, 4, 5, 6, 7, 8, 9, 10, 11] .stop else bif Nat.beq id 33 then .sq [0, 1, 2, 3, 4, 5, 6, 7, 8, 9, 10, 11, 12, 13, 14, 15, 16] .stop else .stop, []⟩
noncomputable def Fsl04Do : List S → Option Res := veil Qsl04Do.run
noncomputable def Ssl04Do : Spec := ⟨[.ro, .ro, .ro], false, Fsl04Do⟩
theorem msl04Do (x1 : Int) (x2 : List (List C)) (x3 : List (List C)) (x4 : List (List C)) (x5 : Int) (x6 : Bool) : Fsl04Do [.agg [.int x1, .sl false none 1 x2], .agg [.sl false none 1 x3, .sl false none 3 x4], .agg [.int x5, .bool x6]] = cV true [.sl 1, .sl 3] (Fsl04Copy [.agg [.sl false none 1 x3, .sl false none 3 x4]]) fun o1 l1 o2 l2 => ix x5 l2 ((l2[Int.toNat x5]?).bind fun w1 => tOwn [.int .i64, .sl 1, .sl 2] w1 fun n1 => (l2[Int.toNat x5]?).bind fun w2 => (w2[1]?).bind fun c1 => own3 c1 fun o3 m1 l3 => ((md l2 (Int.toNat x5) 1 .unk)[Int.toNat x5]?).bind fun w3 => (w3[2]?).bind fun c2 => own3 c2 fun o4 m2 l4 => bif x6 then if m2 = 2 then ix 0 l4 (asO 2 (.sl true none m2 l4) fun o5 l5 => (l5[0]?).bind fun w4 => tOwn [.int .i64] w4 fun n2 => if m2 = 2 then ix 0 l4 (asO 2 (.sl true none m2 l4) fun o6 l6 => (l6[0]?).bind fun w5 => tOwn [.int .i64] (List.drop 1 w5) fun n3 => ix n2 l1 (oc (.int .i64) l1 (Int.toNat n2) 0 ((let e1 : List (List C) := md l1 (Int.toNat n2) 0 (.int n3); asO 2 (.sl true none m2 l4) fun o7 l7 => if 0 ≤ (1 : Int) ∧ (1 : Int) ≤ ((l7.length : Nat) : Int) ∧ ((l7.length : Nat) : Int) ≤ (l7.length : Int) then ix x5 (md (md l2 (Int.toNat x5) 1 .unk) (Int.toNat x5) 2 .unk) (oc (.int .i64) (md (md l2 (Int.toNat x5) 1 .unk) (Int.toNat x5) 2 .unk) (Int.toNat x5) 0 ((let e2 : List (List C) := md (md (md l2 (Int.toNat x5) 1 .unk) (Int.toNat x5) 2 .unk) (Int.toNat x5) 0 (.int n1); (e2[Int.toNat x5]?).bind fun w6 => (w6[1]?).bind fun c3 => (let e3 : List (List C) := md e2 (Int.toNat x5) 1 (.sl true none m1 l3); (e3[Int.toNat x5]?).bind fun w7 => (w7[2]?).bind fun c4 => (let e4 : List (List C) := md e3 (Int.toNat x5) 2 (.sl true none 2 (List.drop 1 (List.take (Int.toNat (l7.length : Int)) l7))); fr false 3 [.agg [.sl true none 1 e1, .sl true none 3 e4]]))))) else none)))) else none) else none else ix x5 x2 ((x2[Int.toNat x5]?).bind fun w8 => tRo [.sl 4] w8 fun _ l8 => ix n1 l8 ((l8[Int.toNat n1]?).bind fun w9 => tRo [.int .i64, .int .i64, .int .i64, .int .i64] w9 fun n4 n5 n6 n7 => bif n4 == 0 then if m1 = 1 then ix n5 l3 (asO 1 (.sl true none m1 l3) fun o8 l9 => (l9[Int.toNat n5]?).bind fun w10 => (w10[0]?).bind fun c5 => (C.asInt .i64 c5).bind fun n8 => (let e5 : List (List C) := md l3 (Int.toNat n5) 0 (.int n7); ix x5 (md (md l2 (Int.toNat x5) 1 .unk) (Int.toNat x5) 2 .unk) (oc (.int .i64) (md (md l2 (Int.toNat x5) 1 .unk) (Int.toNat x5) 2 .unk) (Int.toNat x5) 0 ((let e6 : List (List C) := md (md (md l2 (Int.toNat x5) 1 .unk) (Int.toNat x5) 2 .unk) (Int.toNat x5) 0 (.int (W (n1 + 1))); (e6[Int.toNat x5]?).bind fun w11 => (w11[1]?).bind fun c6 => (let e7 : List (List C) := md e6 (Int.toNat x5) 1 (.sl true none m1 e5); (e7[Int.toNat x5]?).bind fun w12 => (w12[2]?).bind fun c7 => (let e8 : List (List C) := md e7 (Int.toNat x5) 2 (.sl true none m2 l4); fr false 3 [.agg [.sl true none 1 l1, .sl true none 3 e8]]))))))) else none else bif n4 == 1 then if m1 = 1 then ix n5 l3 (asO 1 (.sl true none m1 l3) fun o9 l10 => (l10[Int.toNat n5]?).bind fun w13 => tOwn [.int .i64] w13 fun n9 => if m1 = 1 then ix n6 l3 (asO 1 (.sl true none m1 l3) fun o10 l11 => (l11[Int.toNat n6]?).bind fun w14 => tOwn [.int .i64] w14 fun n10 => cV false [.int .i64] (FsClamp [.one (.int (W (n9 + n10)))]) fun n11 => if m1 = 1 then ix n5 l3 (asO 1 (.sl true none m1 l3) fun o11 l12 => (l12[Int.toNat n5]?).bind fun w15 => (w15[0]?).bind fun c8 => (C.asInt .i64 c8).bind fun n12 => (let e9 : List (List C) := md l3 (Int.toNat n5) 0 (.int n11); ix x5 (md (md l2 (Int.toNat x5) 1 .unk) (Int.toNat x5) 2 .unk) (oc (.int .i64) (md (md l2 (Int.toNat x5) 1 .unk) (Int.toNat x5) 2 .unk) (Int.toNat x5) 0 ((let e10 : List (List C) := md (md (md l2 (Int.toNat x5) 1 .unk) (Int.toNat x5) 2 .unk) (Int.toNat x5) 0 (.int (W (n1 + 1))); (e10[Int.toNat x5]?).bind fun w16 => (w16[1]?).bind fun c9 => (let e11 : List (List C) := md e10 (Int.toNat x5) 1 (.sl true none m1 e9); (e11[Int.toNat x5]?).bind fun w17 => (w17[2]?).bind fun c10 => (let e12 : List (List C) := md e11 (Int.toNat x5) 2 (.sl true none m2 l4); fr false 3 [.agg [.sl true none 1 l1, .sl true none 3 e12]]))))))) else none) else none) else none else bif n4 == 2 then cV false [.int .i64] (FsReadThrough [.one (.sl false none m2 (freezeRows l4)), .agg [.sl false none 1 (freezeRows l1)], .one (.int n7)]) fun n13 => if m1 = 1 then ix n5 l3 (asO 1 (.sl true none m1 l3) fun o12 l13 => (l13[Int.toNat n5]?).bind fun w18 => (w18[0]?).bind fun c11 => (C.asInt .i64 c11).bind fun n14 => (let e13 : List (List C) := md l3 (Int.toNat n5) 0 (.int n13); ix x5 (md (md l2 (Int.toNat x5) 1 .unk) (Int.toNat x5) 2 .unk) (oc (.int .i64) (md (md l2 (Int.toNat x5) 1 .unk) (Int.toNat x5) 2 .unk) (Int.toNat x5) 0 ((let e14 : List (List C) := md (md (md l2 (Int.toNat x5) 1 .unk) (Int.toNat x5) 2 .unk) (Int.toNat x5) 0 (.int (W (n1 + 1))); (e14[Int.toNat x5]?).bind fun w19 => (w19[1]?).bind fun c12 => (let e15 : List (List C) := md e14 (Int.toNat x5) 1 (.sl true none m1 e13); (e15[Int.toNat x5]?).bind fun w20 => (w20[2]?).bind fun c13 => (let e16 : List (List C) := md e15 (Int.toNat x5) 2 (.sl true none m2 l4); fr false 3 [.agg [.sl true none 1 l1, .sl true none 3 e16]]))))))) else none else bif n4 == 3 then if m1 = 1 then ix n5 l3 (asO 1 (.sl true none m1 l3) fun o13 l14 => (l14[Int.toNat n5]?).bind fun w21 => tOwn [.int .i64] w21 fun n15 => asB 2 (.sl true none m2 l4) fun o14 l15 => if (l15.length + 1) * 16 ≤ LIM then ix x5 (md (md l2 (Int.toNat x5) 1 .unk) (Int.toNat x5) 2 .unk) (oc (.int .i64) (md (md l2 (Int.toNat x5) 1 .unk) (Int.toNat x5) 2 .unk) (Int.toNat x5) 0 ((let e17 : List (List C) := md (md (md l2 (Int.toNat x5) 1 .unk) (Int.toNat x5) 2 .unk) (Int.toNat x5) 0 (.int (W (n1 + 1))); (e17[Int.toNat x5]?).bind fun w22 => (w22[1]?).bind fun c14 => (let e18 : List (List C) := md e17 (Int.toNat x5) 1 (.sl true none m1 l3); (e18[Int.toNat x5]?).bind fun w23 => (w23[2]?).bind fun c15 => (let e19 : List (List C) := md e18 (Int.toNat x5) 2 (.sl true none 2 (l15 ++ [[.int n7, .int n15]])); fr false 3 [.agg [.sl true none 1 l1, .sl true none 3 e19]]))))) else none) else none else bif n4 == 5 then ix n7 l1 ((l1[Int.toNat n7]?).bind fun w24 => tOwn [.int .i64] w24 fun n16 => if m1 = 1 then ix n5 l3 (asO 1 (.sl true none m1 l3) fun o15 l16 => (l16[Int.toNat n5]?).bind fun w25 => tOwn [.int .i64] w25 fun n17 => bif n16 == n17 then if m1 = 1 then ix n6 l3 (asO 1 (.sl true none m1 l3) fun o16 l17 => (l17[Int.toNat n6]?).bind fun w26 => tOwn [.int .i64] w26 fun n18 => ix n7 l1 (oc (.int .i64) l1 (Int.toNat n7) 0 ((let e20 : List (List C) := md l1 (Int.toNat n7) 0 (.int n18); if m1 = 1 then ix n5 l3 (asO 1 (.sl true none m1 l3) fun o17 l18 => (l18[Int.toNat n5]?).bind fun w27 => (w27[0]?).bind fun c16 => (C.asInt .i64 c16).bind fun n19 => (let e21 : List (List C) := md l3 (Int.toNat n5) 0 (.int 1); ix x5 (md (md l2 (Int.toNat x5) 1 .unk) (Int.toNat x5) 2 .unk) (oc (.int .i64) (md (md l2 (Int.toNat x5) 1 .unk) (Int.toNat x5) 2 .unk) (Int.toNat x5) 0 ((let e22 : List (List C) := md (md (md l2 (Int.toNat x5) 1 .unk) (Int.toNat x5) 2 .unk) (Int.toNat x5) 0 (.int (W (n1 + 1))); (e22[Int.toNat x5]?).bind fun w28 => (w28[1]?).bind fun c17 => (let e23 : List (List C) := md e22 (Int.toNat x5) 1 (.sl true none m1 e21); (e23[Int.toNat x5]?).bind fun w29 => (w29[2]?).bind fun c18 => (let e24 : List (List C) := md e23 (Int.toNat x5) 2 (.sl true none m2 l4); fr false 3 [.agg [.sl true none 1 e20, .sl true none 3 e24]]))))))) else none)))) else none else if m1 = 1 then ix n5 l3 (asO 1 (.sl true none m1 l3) fun o18 l19 => (l19[Int.toNat n5]?).bind fun w30 => (w30[0]?).bind fun c19 => (C.asInt .i64 c19).bind fun n20 => (let e25 : List (List C) := md l3 (Int.toNat n5) 0 (.int 0); ix x5 (md (md l2 (Int.toNat x5) 1 .unk) (Int.toNat x5) 2 .unk) (oc (.int .i64) (md (md l2 (Int.toNat x5) 1 .unk) (Int.toNat x5) 2 .unk) (Int.toNat x5) 0 ((let e26 : List (List C) := md (md (md l2 (Int.toNat x5) 1 .unk) (Int.toNat x5) 2 .unk) (Int.toNat x5) 0 (.int (W (n1 + 1))); (e26[Int.toNat x5]?).bind fun w31 => (w31[1]?).bind fun c20 => (let e27 : List (List C) := md e26 (Int.toNat x5) 1 (.sl true none m1 e25); (e27[Int.toNat x5]?).bind fun w32 => (w32[2]?).bind fun c21 => (let e28 : List (List C) := md e27 (Int.toNat x5) 2 (.sl true none m2 l4); fr false 3 [.agg [.sl true none 1 l1, .sl true none 3 e28]]))))))) else none) else none) else bif n4 == 6 then if m1 = 1 then ix n5 l3 (asO 1 (.sl true none m1 l3) fun o19 l20 => (l20[Int.toNat n5]?).bind fun w33 => tOwn [.int .i64] w33 fun n21 => bif n21 == 0 then ix x5 (md (md l2 (Int.toNat x5) 1 .unk) (Int.toNat x5) 2 .unk) (oc (.int .i64) (md (md l2 (Int.toNat x5) 1 .unk) (Int.toNat x5) 2 .unk) (Int.toNat x5) 0 ((let e29 : List (List C) := md (md (md l2 (Int.toNat x5) 1 .unk) (Int.toNat x5) 2 .unk) (Int.toNat x5) 0 (.int n7); (e29[Int.toNat x5]?).bind fun w34 => (w34[1]?).bind fun c22 => (let e30 : List (List C) := md e29 (Int.toNat x5) 1 (.sl true none m1 l3); (e30[Int.toNat x5]?).bind fun w35 => (w35[2]?).bind fun c23 => (let e31 : List (List C) := md e30 (Int.toNat x5) 2 (.sl true none m2 l4); fr false 3 [.agg [.sl true none 1 l1, .sl true none 3 e31]]))))) else ix x5 (md (md l2 (Int.toNat x5) 1 .unk) (Int.toNat x5) 2 .unk) (oc (.int .i64) (md (md l2 (Int.toNat x5) 1 .unk) (Int.toNat x5) 2 .unk) (Int.toNat x5) 0 ((let e32 : List (List C) := md (md (md l2 (Int.toNat x5) 1 .unk) (Int.toNat x5) 2 .unk) (Int.toNat x5) 0 (.int (W (n1 + 1))); (e32[Int.toNat x5]?).bind fun w36 => (w36[1]?).bind fun c24 => (let e33 : List (List C) := md e32 (Int.toNat x5) 1 (.sl true none m1 l3); (e33[Int.toNat x5]?).bind fun w37 => (w37[2]?).bind fun c25 => (let e34 : List (List C) := md e33 (Int.toNat x5) 2 (.sl true none m2 l4); fr false 3 [.agg [.sl true none 1 l1, .sl true none 3 e34]])))))) else none else bif n4 == 7 then ix n7 l1 ((l1[Int.toNat n7]?).bind fun w38 => tOwn [.int .i64] w38 fun n22 => if m1 = 1 then ix n6 l3 (asO 1 (.sl true none m1 l3) fun o20 l21 => (l21[Int.toNat n6]?).bind fun w39 => tOwn [.int .i64] w39 fun n23 => ix n7 l1 (oc (.int .i64) l1 (Int.toNat n7) 0 ((let e35 : List (List C) := md l1 (Int.toNat n7) 0 (.int n23); if m1 = 1 then ix n5 l3 (asO 1 (.sl true none m1 l3) fun o21 l22 => (l22[Int.toNat n5]?).bind fun w40 => (w40[0]?).bind fun c26 => (C.asInt .i64 c26).bind fun n24 => (let e36 : List (List C) := md l3 (Int.toNat n5) 0 (.int n22); ix x5 (md (md l2 (Int.toNat x5) 1 .unk) (Int.toNat x5) 2 .unk) (oc (.int .i64) (md (md l2 (Int.toNat x5) 1 .unk) (Int.toNat x5) 2 .unk) (Int.toNat x5) 0 ((let e37 : List (List C) := md (md (md l2 (Int.toNat x5) 1 .unk) (Int.toNat x5) 2 .unk) (Int.toNat x5) 0 (.int (W (n1 + 1))); (e37[Int.toNat x5]?).bind fun w41 => (w41[1]?).bind fun c27 => (let e38 : List (List C) := md e37 (Int.toNat x5) 1 (.sl true none m1 e36); (e38[Int.toNat x5]?).bind fun w42 => (w42[2]?).bind fun c28 => (let e39 : List (List C) := md e38 (Int.toNat x5) 2 (.sl true none m2 l4); fr false 3 [.agg [.sl true none 1 e35, .sl true none 3 e39]]))))))) else none)))) else none) else bif n4 == 8 then if m1 = 1 then ix n5 l3 (asO 1 (.sl true none m1 l3) fun o22 l23 => (l23[Int.toNat n5]?).bind fun w43 => tOwn [.int .i64] w43 fun n25 => if m1 = 1 then ix n6 l3 (asO 1 (.sl true none m1 l3) fun o23 l24 => (l24[Int.toNat n6]?).bind fun w44 => tOwn [.int .i64] w44 fun n26 => cV false [.int .i64] (FsClamp [.one (.int (W (n25 - n26)))]) fun n27 => if m1 = 1 then ix n5 l3 (asO 1 (.sl true none m1 l3) fun o24 l25 => (l25[Int.toNat n5]?).bind fun w45 => (w45[0]?).bind fun c29 => (C.asInt .i64 c29).bind fun n28 => (let e40 : List (List C) := md l3 (Int.toNat n5) 0 (.int n27); ix x5 (md (md l2 (Int.toNat x5) 1 .unk) (Int.toNat x5) 2 .unk) (oc (.int .i64) (md (md l2 (Int.toNat x5) 1 .unk) (Int.toNat x5) 2 .unk) (Int.toNat x5) 0 ((let e41 : List (List C) := md (md (md l2 (Int.toNat x5) 1 .unk) (Int.toNat x5) 2 .unk) (Int.toNat x5) 0 (.int (W (n1 + 1))); (e41[Int.toNat x5]?).bind fun w46 => (w46[1]?).bind fun c30 => (let e42 : List (List C) := md e41 (Int.toNat x5) 1 (.sl true none m1 e40); (e42[Int.toNat x5]?).bind fun w47 => (w47[2]?).bind fun c31 => (let e43 : List (List C) := md e42 (Int.toNat x5) 2 (.sl true none m2 l4); fr false 3 [.agg [.sl true none 1 l1, .sl true none 3 e43]]))))))) else none) else none) else none else ix x5 (md (md l2 (Int.toNat x5) 1 .unk) (Int.toNat x5) 2 .unk) (oc (.int .i64) (md (md l2 (Int.toNat x5) 1 .unk) (Int.toNat x5) 2 .unk) (Int.toNat x5) 0 ((let e44 : List (List C) := md (md (md l2 (Int.toNat x5) 1 .unk) (Int.toNat x5) 2 .unk) (Int.toNat x5) 0 (.int (W (n1 + 1))); (e44[Int.toNat x5]?).bind fun w48 => (w48[1]?).bind fun c32 => (let e45 : List (List C) := md e44 (Int.toNat x5) 1 (.sl true none m1 l3); (e45[Int.toNat x5]?).bind fun w49 => (w49[2]?).bind fun c33 => (let e46 : List (List C) := md e45 (Int.toNat x5) 2 (.sl true none m2 l4); fr false 3 [.agg [.sl true none 1 l1, .sl true none 3 e46]])))))))) := Fx.eq (by kernel_rfl)
theorem oksl04Do : CalleeOk Go.Proofs.Tryz.prog 24 Ssl04Do := Fx.ok (F := Qsl04Do) follows (envTy_mk tys_m14_eq) (envSpec_of (specsOk_cons oksl04Copy (specsOk_cons oksClamp (specsOk_cons oksReadThrough specsOk_nil)))) Go.Proofs.Tryz.func24 (by kernel_rfl) (by kernel_rfl) (by rw [show subs Qsl04Do.code = [] by kernel_rfl]; trivial) (by kernel_rfl) (by kernel_rfl) rfl
theorem Fsl04Do_at (p : Prog) (m : Machine) (t : Int) (dr : Bool) (h : progOk p = true ∧ isMa p m = true ∧ canMv p m t dr = true) : Fsl04Do [S.agg (encProg false p), S.agg (encMa false m), S.agg [C.int t, C.bool dr]] = some (S.agg (encMa true (mvM p m t dr)), [S.one C.unk, S.one C.unk, S.one C.unk]) := by
  obtain ⟨hp, hm, hcan⟩ := h
  rw [msl04Do, Fsl04Copy_at m (bT_of hp hm)]
  cases dr
  · obtain ⟨h0, hx⟩ := exOk_of hp hm hcan
    obtain ⟨t, rfl⟩ := Int.eq_ofNat_of_zero_le h0
    simp only [Int.toNat_natCast] at hx
    obtain ⟨ht, hc, n, hn, hpc, hth, hin, hmo, hml, hcl, h3, he⟩ := exOk_get hx
    simp only [mvM, cond_false, Int.toNat_natCast]
    obtain ⟨pc, codes⟩ := p
    obtain ⟨cells, ths⟩ := m
    simp only at ht hc hn hpc hth hin hmo hml hcl h3 he
    rw [he]
    obtain ⟨⟨hp1, hp2⟩, hv4, hvv, hbo, hbc⟩ := thOk_iff.1 hth
    have hW : W ((n : Int) + 1) = (n : Int) + 1 := W_eq (by omega) (by omega)
    generalize hi : codes[t][n] = i at *
    simp only [instrOk, Bool.and_eq_true] at hin
    obtain ⟨⟨⟨⟨⟨⟨⟨g1, g2⟩, g3⟩, g4⟩, g5⟩, g6⟩, g7⟩, g8⟩ := hin
    simp only [inB, Bool.and_eq_true, decide_eq_true_eq] at g1 g2 g3 g4 g5
    obtain ⟨ir, hr⟩ := Int.eq_ofNat_of_zero_le g4.1
    obtain ⟨is, hs⟩ := Int.eq_ofNat_of_zero_le g5.1
    have hir : ir < ths[t].vals.length := by omega
    have his : is < ths[t].vals.length := by omega
    have hvr := hvv _ (List.getElem_mem hir)
    have hvs := hvv _ (List.getElem_mem his)
    simp only [isV, inB, Bool.and_eq_true, decide_eq_true_eq] at hvr hvs
    have hA : W (ths[t].vals[ir] + ths[t].vals[is]) = ths[t].vals[ir] + ths[t].vals[is] := W_eq (by omega) (by omega)
    have hS : W (ths[t].vals[ir] - ths[t].vals[is]) = ths[t].vals[ir] - ths[t].vals[is] := W_eq (by omega) (by omega)
    have hL : ths[t].buf.length ≤ 3 := by
      simp only [bufOk, Bool.and_eq_true, decide_eq_true_eq] at hbo; exact hbo.1
    have hLim : (ths[t].buf.length + 1) * 16 ≤ LIM := by unfold LIM; omega
    have hcl16 : cells.length ≤ 16 := by
      simp only [memOk, inB, Bool.and_eq_true, decide_eq_true_eq] at hmo; omega
    have hcases : i.op = 0 ∨ i.op = 1 ∨ i.op = 8 ∨ i.op = 4 ∨ i.op = 6 ∨ i.op = 2 ∨ i.op = 3 ∨ i.op = 5 ∨ i.op = 7 := by omega
    have hn2 : i.op = 2 ∨ i.op = 3 ∨ i.op = 5 ∨ i.op = 7 → 0 ≤ i.n ∧ i.n < cells.length := by
      intro ho
      have : inB i.n 0 (pc - 1) = true := by
        rcases ho with e | e | e | e <;> simpa [useN, e] using g8
      simp only [inB, Bool.and_eq_true, decide_eq_true_eq] at this
      omega
    have hmd := fun v b a => md_all ht a v b
    have hslot : [C.int i.n, C.int ths[t].vals[ir]] = encSlot ⟨i.n, ths[t].vals[ir]⟩ := rfl
    have hRT := fun k1 k2 => FsReadThrough_at none ths[t].buf cells i.n ⟨by omega, hmo, hbo, k1, k2⟩
    clear hth hbc hbo hmo hvv hx hcan hm hp he
    rcases hcases with e | e | e | e | e | e | e | e | e
    · simp [-List.map_set, ht, hc, hn, hpc, hi, hW, hr, hs, hir, his, md_self, oc, md_int, hmd, e, execI]
    · simp [-List.map_set, ht, hc, hn, hpc, hi, hW, hr, hs, hir, his, md_self, oc, md_int, hmd, e, execI, FsClamp_at, hA]
    · simp [-List.map_set, ht, hc, hn, hpc, hi, hW, hr, hs, hir, his, md_self, oc, md_int, hmd, e, execI, FsClamp_at, hS]
    · simp [-List.map_set, ht, hc, hn, hpc, hi, hW, hr, hs, hir, his, md_self, oc, md_int, hmd, e, execI]
    · cases hz : (ths[t].vals[ir] == 0)
      · simp [-List.map_set, ht, hc, hn, hpc, hi, hW, hr, hs, hir, his, md_self, oc, md_int, hmd, e, execI, hz]
      · simp [-List.map_set, ht, hc, hn, hpc, hi, hW, hr, hs, hir, his, md_self, oc, md_int, hmd, e, execI, hz]
    · obtain ⟨k1, k2⟩ := hn2 (by omega)
      simp [-List.map_set, ht, hc, hn, hpc, hi, hW, hr, hs, hir, his, md_self, oc, md_int, hmd, e, execI, hRT k1 k2]
    · simp [-List.map_set, ht, hc, hn, hpc, hi, hW, hr, hs, hir, his, md_self, oc, md_int, md_allP ht, e, execI, hLim]
    · obtain ⟨k1, k2⟩ := hn2 (by omega)
      obtain ⟨k, hk⟩ := Int.eq_ofNat_of_zero_le k1
      have hk' : k < cells.length := by omega
      cases hz : (cells[k] == ths[t].vals[ir])
      · simp [-List.map_set, ht, hc, hn, hpc, hi, hW, hr, hs, hir, his, md_self, oc, md_int, hmd, e, execI, hk, hk', hz]
      · simp [-List.map_set, ht, hc, hn, hpc, hi, hW, hr, hs, hir, his, md_self, oc, md_int, hmd, e, execI, hk, hk', hz]
    · obtain ⟨k1, k2⟩ := hn2 (by omega)
      obtain ⟨k, hk⟩ := Int.eq_ofNat_of_zero_le k1
      have hk' : k < cells.length := by omega
      simp [-List.map_set, ht, hc, hn, hpc, hi, hW, hr, hs, hir, his, md_self, oc, md_int, hmd, e, execI, hk, hk']
  · obtain ⟨h0, hx⟩ := drOk_of hm hcan
    obtain ⟨t, rfl⟩ := Int.eq_ofNat_of_zero_le h0
    simp only [Int.toNat_natCast] at hx
    obtain ⟨th, s, b, h1, h2, h3, h4⟩ := hx
    obtain ⟨cells, ths⟩ := m
    simp only at h1 h4
    obtain ⟨ht, rfl⟩ := List.getElem?_eq_some_iff.1 h1
    obtain ⟨k, hk⟩ := Int.eq_ofNat_of_zero_le h3
    have hk' : k < cells.length := by omega
    have hx0 : ix 0 (encSlot s :: b.map encSlot) = fun k => k := by funext k; simp [ix]
    have hx1 : (1 : Int) ≤ (b.length : Int) + 1 := by omega
    simp [-List.map_set, ht, h2, hk, hk', md_self, oc, md_int, md_all ht, mvM, drainM, hx0, hx1]
end Go.Proofs.Gh.Gm
set_option linter.unusedVariables false
set_option linter.unusedSimpArgs false
set_option maxRecDepth 100000
set_option maxHeartbeats 2000000
namespace Go.Proofs.Gh.Gm
def tys_m15 : List (Nat × TI) := []
theorem tys_m15_eq : tys_m15.map (fun x => tiOf Go.Proofs.Tryz.prog x.1 x.2.cks) = tys_m15.map fun x => some x.2 := by kernel_rfl
theorem take0_some {s : Nat} {n : Int} (h : ¬ take0 s n < 0) (hn : 0 ≤ n) : (s : Int) ≤ n ∧ take0 s n = n - s := by
  unfold take0 at h ⊢
  split
  · exact ⟨by assumption, rfl⟩
  · rename_i e; rw [if_neg e] at h; omega
theorem runM_bT (p : Prog) (mvs : List Move) : (runM p mvs).1.cells.length ≤ 16 ∧ (runM p mvs).1.ths.length ≤ 3 ∧ ∀ t ∈ (runM p mvs).1.ths, t.vals.length = 4 ∧ t.buf.length ≤ 3 := by
  unfold runM
  cases hp : progOk p
  · simp
  · by_cases hl : mvs.length > 300
    · simp [hl]
    · have key : ∀ (l : List Move) (a : Machine × Nat), isMa p a.1 = true → isMa p (l.foldl (runF p) a).1 = true := by
        intro l
        induction l with
        | nil => intro a ha; exact ha
        | cons mv l ih =>
          intro a ha
          rw [List.foldl_cons]
          refine ih _ ?_
          cases hcan : canMv p a.1 mv.t mv.drain
          · simpa only [runF, hcan, cond_false] using ha
          · simp only [runF, hcan, cond_true]; exact isMa_mv hp ha hcan
      simp only [Bool.not_true, hl, decide_false, Bool.or_self, cond_false]
      exact isMa_bT hp (key mvs _ (isMa_start hp))
theorem thsN_le {l : List Thread} (h : ∀ t ∈ l, t.vals.length = 4 ∧ t.buf.length ≤ 3) : thsN l ≤ 11 * l.length := by
  induction l with
  | nil => simp [thsN]
  | cons t l ih =>
    have h1 := h t (by simp)
    have h2 := ih fun x hx => h x (by simp [hx])
    simp only [thsN, thN, List.length_cons]
    omega
end Go.Proofs.Gh.Gm
