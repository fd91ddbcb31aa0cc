/- The program's functions by the ghost evaluator: what each computes, and that it does. -/
import Derived.Test.YtmpnmcnjhpekaaaGh47
import Derived.Test.YtmpnmcnjhpekaaaGh48
import Derived.Test.YtmpnmcnjhpekaaaGh45
import Derived.Test.YtmpnmcnjhpekaaaProg
import Derived.KernelRfl
import Derived.Test.YtmpnmcnjhpekaaaRa
import Derived.Test.YtmpnmcnjhpekaaaGh44
set_option linter.unusedVariables false
set_option linter.unusedSimpArgs false
set_option maxRecDepth 100000
set_option maxHeartbeats 2000000
namespace Go.Proofs.Gh.Gm
def tys_y4 : List (Nat × TI) := [(3, ⟨false, 8, [.int .i64], [.int 0], .scalar, false, none⟩),
  (4, ⟨false, 1, [.bool], [.bool false], .scalar, false, none⟩),
  (5, ⟨false, 1, [.int .u8], [.v (.int .u8 0)], .scalar, false, none⟩),
  (38, ⟨false, 24, [.sl 1], [.sl true (some true) 1 []], .slice 5, false, none⟩),
  (40, ⟨false, 24, [.sl 3], [.sl true (some true) 3 []], .slice 104, false, none⟩),
  (104, ⟨true, 24, [.int .i64, .int .i64, .int .i64], [.int 0, .int 0, .int 0], .struct [(0, 1, false), (1, 1, false), (2, 1, false)], true, none⟩)]
theorem tys_y4_eq : tys_y4.map (fun x => tiOf Go.Proofs.Try.prog x.1 x.2.cks) = tys_y4.map fun x => some x.2 := by kernel_rfl
def opBytes (o : OpR) : List Int := (5 * o.k + o.t) :: (bif inB o.k 1 3 then [o.x] else [])
theorem opOk_iff {o : OpR} (h : opOk o = true) : (0 ≤ o.k ∧ o.k ≤ 6) ∧ (0 ≤ o.t ∧ o.t ≤ 4) ∧ (inB o.k 1 3 = true → 1 ≤ o.x ∧ o.x ≤ 60) ∧ (inB o.k 1 3 = false → o.x = 0) := by
  simp only [opOk, Bool.and_eq_true, inB_iff] at h
  refine ⟨h.1, h.2.1, fun e => ?_, fun e => ?_⟩
  · have := h.2.2.2; rw [e] at this; simpa [inB_iff] using this
  · have := h.2.2.2; rw [e] at this; simpa using this
theorem opBytes_ok {o : OpR} (h : opOk o = true) : bOk (opBytes o) := by
  obtain ⟨h1, h2, h3, _⟩ := opOk_iff h
  intro x hx
  unfold opBytes at hx
  cases e : inB o.k 1 3 <;> rw [e] at hx <;> simp at hx
  · subst hx; omega
  · have := h3 e
    rcases hx with rfl | rfl <;> omega
theorem opBytes_len (o : OpR) : 1 ≤ (opBytes o).length ∧ (opBytes o).length ≤ 2 := by
  unfold opBytes
  cases inB o.k 1 3 <;> simp
/-! sPackOp: loop.example/g00712/spec.PackOp -/
noncomputable def QsPackOp : Fx := ⟨Go.Proofs.Try.f77, [.ro], false, mkEnv tys_y4 [(130, Ssl17HasX), (75, SsOpOk)] [], fun _ => .stop, []⟩
noncomputable def FsPackOp : List S → Option Res := veil QsPackOp.run
noncomputable def SsPackOp : Spec := ⟨[.ro], false, FsPackOp⟩
theorem msPackOp (x1 : Int) (x2 : Int) (x3 : Int) : FsPackOp [.agg [.int x1, .int x2, .int x3]] = cV false [.bool] (FsOpOk [.agg [.int x1, .int x2, .int x3]]) fun b1 => bif !b1 then fr false 1 [.one (.sl true (some true) 1 [])] else cV false [.bool] (Fsl17HasX [.one (.int x1)]) fun b2 => bif b2 then fr false 1 [.one (.sl true (some false) 1 [[.v (.int .u8 (B8 (W ((W (5 * x1)) + x2))))], [.v (.int .u8 (B8 (x3)))]])] else fr false 1 [.one (.sl true (some false) 1 [[.v (.int .u8 (B8 (W ((W (5 * x1)) + x2))))]])] := Fx.eq (by kernel_rfl)
theorem oksPackOp : CalleeOk Go.Proofs.Try.prog 77 SsPackOp := Fx.ok (F := QsPackOp) follows (envTy_mk tys_y4_eq) (envSpec_of (specsOk_cons oksl17HasX (specsOk_cons oksOpOk specsOk_nil))) Go.Proofs.Try.func77 (by kernel_rfl) (by kernel_rfl) (by rw [show subs QsPackOp.code = [] by kernel_rfl]; trivial) (by kernel_rfl) (by kernel_rfl) rfl
theorem FsPackOp_at (o : OpR) : FsPackOp [S.agg (encOp o)] = some (S.one (C.sl true (some (!opOk o)) 1 ((bif opOk o then opBytes o else []).map encB)), [S.one C.unk]) := by
  cases h : opOk o with
  | false => simp [msPackOp, FsOpOk_at, h]
  | true =>
    obtain ⟨h1, h2, h3, _⟩ := opOk_iff h
    have w1 : W (5 * o.k) = 5 * o.k := W_eq (by omega) (by omega)
    have w2 : W (5 * o.k + o.t) = 5 * o.k + o.t := W_eq (by omega) (by omega)
    have w3 : B8 (5 * o.k + o.t) = 5 * o.k + o.t := B8_eq (by omega) (by omega)
    cases e : inB o.k 1 3 with
    | false => simp [msPackOp, FsOpOk_at, Fsl17HasX_at, h, e, w1, w2, w3, opBytes]
    | true =>
      have h3 := h3 e
      have w4 : B8 o.x = o.x := B8_eq (by omega) (by omega)
      simp [msPackOp, FsOpOk_at, Fsl17HasX_at, h, e, w1, w2, w3, w4, opBytes]
/-! sl01Bytes: loop.example/g00712/spec.l01Bytes -/
@[reducible] def hsl01Bytes_3 : Sh := ⟨[.one (.o (.sl false 1)), .one (.o (.al 2 0 [])), .one (.o (.i .i64))], [(true, [.o .u]), (true, [.o .u]), (true, [.o (.sl true 1)])]⟩
@[reducible] def xsl01Bytes_3 : List (Ex × Sh) := [(.exit 0, ⟨[.one (.o (.al 2 0 []))], [(true, [.o .u]), (true, [.o .u]), (true, [.o (.sl true 1)])]⟩)]
noncomputable def Rsl01Bytes_3 : KC xsl01Bytes_3 (hsl01Bytes_3.K → hsl01Bytes_3.K) := fun k0 nx v1 v2 v3 v4 v5 => bif decide (v3 < (v2.length : Int)) then ix v3 v2 ((v2[Int.toNat v3]?).bind fun w1 => tRo [.int .u8] w1 fun n1 => if (v5.length + 1) * 1 ≤ LIM then nx v1 v2 (W (v3 + 1)) (apNl v4 [[]]) (v5 ++ [[C.v (.int .u8 n1)]]) else none) else k0 v4 v5
noncomputable def Lsl01Bytes_3 : Lp := ⟨3, [0, 3, 4], [3], 2, 20, hsl01Bytes_3, xsl01Bytes_3, Rsl01Bytes_3⟩
noncomputable def Qsl01Bytes : Fx := ⟨Go.Proofs.Try.f131, [.ro], false, mkEnv tys_y4 [] [], fun _ => .stop, [Lsl01Bytes_3]⟩
noncomputable def Fsl01Bytes : List S → Option Res := veil Qsl01Bytes.run
noncomputable def Ssl01Bytes : Spec := ⟨[.ro], false, Fsl01Bytes⟩
theorem msl01Bytes (x1 : Option Bool) (x2 : List (List C)) : Fsl01Bytes [.one (.sl false x1 1 x2)] = iterC (Rsl01Bytes_3 (fun y1 y2 => fr false 1 [.one (.sl true y1 1 y2)])) FUEL x1 x2 0 (some false) [] := Fx.eq (by kernel_rfl)
theorem stsl01Bytes_3 : Lsl01Bytes_3.Step Qsl01Bytes.E Qsl01Bytes.dr Qsl01Bytes.lp ((findLoop 3 Qsl01Bytes.code).getD .skip) := fun k nx v => by kernel_rfl
theorem oksl01Bytes : CalleeOk Go.Proofs.Try.prog 131 Ssl01Bytes := Fx.ok (F := Qsl01Bytes) follows (envTy_mk tys_y4_eq) (envSpec_of (specsOk_nil)) Go.Proofs.Try.func131 (by kernel_rfl) (by kernel_rfl) (by
  rw [show subs Qsl01Bytes.code = [(findLoop 3 Qsl01Bytes.code).getD .skip] by kernel_rfl]
  exact ⟨stepAt_some (by kernel_rfl) stsl01Bytes_3, trivial⟩) (by kernel_rfl) (by kernel_rfl) rfl
theorem Fsl01Bytes_at (nl : Option Bool) (b : List Int) (h : b.length ≤ 1099511627776) : Fsl01Bytes [S.one (C.sl false nl 1 (b.map encB))] = some (S.one (C.sl true (some false) 1 (b.map encB)), [S.one C.unk]) := by
  rw [msl01Bytes]
  refine (iter_fold (h := hsl01Bytes_3) b (fun i (x : List Int) f => f nl (b.map encB) (i : Int) (some false) (x.map encB)) (fun x o => x ++ [o]) (fun x => fr false 1 [.one (.sl true (some false) 1 (x.map encB))]) (fun i x => x.length = i) (by omega) ?_ ?_ [] rfl).trans ?_
  · intro nx x _; simp [Rsl01Bytes_3]
  · intro nx i x hi hx hW
    have hL : x.length + 1 ≤ LIM := by unfold LIM; omega
    exact ⟨by simp; omega, by simp [Rsl01Bytes_3, hi, hL, hW]⟩
  · rw [foldl_snoc]; simp
/-! sl01Join: loop.example/g00712/spec.l01Join -/
@[reducible] def hsl01Join_3 : Sh := ⟨[.one (.o (.sl false 1)), .one (.o (.al 2 0 [])), .one (.o (.i .i64))], [(true, [.o .u]), (true, [.o .u]), (true, [.o (.sl true 1)])]⟩
@[reducible] def xsl01Join_3 : List (Ex × Sh) := [(.exit 0, ⟨[.one (.o (.al 2 0 []))], [(true, [.o .u]), (true, [.o .u]), (true, [.o (.sl true 1)])]⟩)]
noncomputable def Rsl01Join_3 : KC xsl01Join_3 (hsl01Join_3.K → hsl01Join_3.K) := fun k0 nx v1 v2 v3 v4 v5 => bif decide (v3 < (v2.length : Int)) then ix v3 v2 ((v2[Int.toNat v3]?).bind fun w1 => tRo [.int .u8] w1 fun n1 => if (v5.length + 1) * 1 ≤ LIM then nx v1 v2 (W (v3 + 1)) (apNl v4 [[]]) (v5 ++ [[C.v (.int .u8 n1)]]) else none) else k0 v4 v5
noncomputable def Lsl01Join_3 : Lp := ⟨3, [1, 5, 6], [5], 2, 23, hsl01Join_3, xsl01Join_3, Rsl01Join_3⟩
noncomputable def Qsl01Join : Fx := ⟨Go.Proofs.Try.f76, [.ro, .ro], false, mkEnv tys_y4 [(131, Ssl01Bytes)] [], fun _ => .stop, [Lsl01Join_3]⟩
noncomputable def Fsl01Join : List S → Option Res := veil Qsl01Join.run
noncomputable def Ssl01Join : Spec := ⟨[.ro, .ro], false, Fsl01Join⟩
theorem msl01Join (x1 : Option Bool) (x2 : List (List C)) (x3 : Option Bool) (x4 : List (List C)) : Fsl01Join [.one (.sl false x1 1 x2), .one (.sl false x3 1 x4)] = cV false [.sl 1] (Fsl01Bytes [.one (.sl false x1 1 x2)]) fun o1 l1 => iterC (Rsl01Join_3 (fun y1 y2 => fr false 2 [.one (.sl true y1 1 y2)])) FUEL x3 x4 0 o1 l1 := Fx.eq (by kernel_rfl)
theorem stsl01Join_3 : Lsl01Join_3.Step Qsl01Join.E Qsl01Join.dr Qsl01Join.lp ((findLoop 3 Qsl01Join.code).getD .skip) := fun k nx v => by kernel_rfl
theorem oksl01Join : CalleeOk Go.Proofs.Try.prog 76 Ssl01Join := Fx.ok (F := Qsl01Join) follows (envTy_mk tys_y4_eq) (envSpec_of (specsOk_cons oksl01Bytes specsOk_nil)) Go.Proofs.Try.func76 (by kernel_rfl) (by kernel_rfl) (by
  rw [show subs Qsl01Join.code = [(findLoop 3 Qsl01Join.code).getD .skip] by kernel_rfl]
  exact ⟨stepAt_some (by kernel_rfl) stsl01Join_3, trivial⟩) (by kernel_rfl) (by kernel_rfl) rfl
theorem Fsl01Join_at (nl : Option Bool) (a : List Int) (nl' : Option Bool) (b : List Int) (h : a.length ≤ 1099511627776 ∧ b.length ≤ 1099511627776) : Fsl01Join [S.one (C.sl false nl 1 (a.map encB)), S.one (C.sl false nl' 1 (b.map encB))] = some (S.one (C.sl true (some false) 1 ((a ++ b).map encB)), [S.one C.unk, S.one C.unk]) := by
  obtain ⟨ha, hb⟩ := h
  rw [msl01Join, Fsl01Bytes_at _ _ ha]
  have key : ∀ K : Option Bool → List (List C) → Option Res, iterC (Rsl01Join_3 K) FUEL nl' (b.map encB) 0 (some false) (a.map encB) = K (some false) ((a ++ b).map encB) := fun K => by
    refine (iter_fold (h := hsl01Join_3) b (fun i (x : List Int) f => f nl' (b.map encB) (i : Int) (some false) (x.map encB)) (fun x o => x ++ [o]) (fun x => K (some false) (x.map encB)) (fun i x => x.length = a.length + i) (by omega) ?_ ?_ a rfl).trans ?_
    · intro nx x _; simp [Rsl01Join_3]
    · intro nx i x hi hx hW
      have hL : x.length + 1 ≤ LIM := by unfold LIM; omega
      exact ⟨by simp; omega, by simp [Rsl01Join_3, hi, hL, hW]⟩
    · rw [foldl_snoc]
  have hf := encB_free (a ++ b)
  rw [List.map_append] at hf
  simp [key, hf]
/-- A block of operations. -/
def packH (c : List OpR) : List Int := (c.length : Int) :: ((c.flatMap opBytes).length : Int) :: c.flatMap opBytes
def packBlock (c : List OpR) : List Int := packH c ++ [sumB (packH c) / 256, sumB (packH c) % 256]
def packS : Nat → List OpR → List Int → Option (List Int)
  | 0, _, out => some out
  | f + 1, ops, out => if (ops.take 16).all opOk = true ∧ (packBlock (ops.take 16)).length + out.length ≤ 4000 then packS f (ops.drop 16) (out ++ packBlock (ops.take 16)) else none
def packRes : Option (List Int) → S
  | none => S.tup [S.one (C.sl true (some true) 1 []), S.one (C.bool false)]
  | some r => S.tup [S.one (C.sl true (some false) 1 (r.map encB)), S.one (C.bool true)]
theorem flat_len (c : List OpR) : (c.flatMap opBytes).length ≤ 2 * c.length := by
  induction c with
  | nil => simp
  | cons o c ih => have := opBytes_len o; simp only [List.flatMap_cons, List.length_append, List.length_cons]; omega
theorem flat_ok {c : List OpR} (h : c.all opOk = true) : bOk (c.flatMap opBytes) := by
  intro x hx
  obtain ⟨o, ho, hx⟩ := List.mem_flatMap.1 hx
  exact opBytes_ok (List.all_eq_true.1 h o ho) x hx
theorem packH_ok {c : List OpR} (h : c.all opOk = true) (hl : c.length ≤ 16) : bOk (packH c) := by
  have := flat_len c
  intro x hx
  simp only [packH, List.mem_cons] at hx
  rcases hx with rfl | rfl | hx
  · omega
  · omega
  · exact flat_ok h x hx
theorem packBlock_ok {c : List OpR} (h : c.all opOk = true) (hl : c.length ≤ 16) : bOk (packBlock c) := by
  refine bOk_app (packH_ok h hl) (fun x hx => ?_)
  have := sumB_range (packH c)
  simp at hx
  rcases hx with rfl | rfl <;> omega
theorem packS_ok {f : Nat} {ops : List OpR} {out r : List Int} (h : packS f ops out = some r) (ho : bOk out) (hl : out.length ≤ 4000) : bOk r ∧ r.length ≤ 4000 := by
  induction f generalizing ops out with
  | zero => cases h; exact ⟨ho, hl⟩
  | succ f ih =>
    rw [packS] at h
    split at h
    · rename_i hc
      exact ih h (bOk_app ho (packBlock_ok hc.1 (by rw [List.length_take]; omega))) (by rw [List.length_append]; omega)
    · cases h
/-! sPackOps: loop.example/g00712/spec.PackOps -/
@[reducible] def hsPackOps_10 : Sh := ⟨[.one (.o (.sl false 3)), .one (.o (.al 4 0 [])), .one (.o (.i .i64)), .one (.o (.i .i64)), .one (.o (.al 5 0 [])), .one (.o (.i .i64))], [(true, [.o .u]), (true, [.o .u]), (true, [.o .u]), (true, [.o .u]), (true, [.o (.sl true 1)]), (true, [.o (.sl true 1)])]⟩
@[reducible] def xsPackOps_10 : List (Ex × Sh) := [(.ret, ⟨[.one (.o (.sl false 3)), .one (.o (.al 6 0 [])), .one (.o .b), .one (.o (.al 4 0 [])), .one (.o (.i .i64)), .one (.o (.i .i64)), .one (.o (.al 5 0 []))], [(true, [.o .u]), (true, [.o .u]), (true, [.o .u]), (true, [.o .u]), (true, [.o (.sl true 1)]), (true, [.o (.sl true 1)]), (true, [.o (.sl true 1)])]⟩), (.exit 2, ⟨[.one (.o (.sl false 3)), .one (.o .u), .one (.o .u), .one (.o (.al 4 0 [])), .one (.o (.i .i64)), .one (.o (.i .i64)), .one (.o (.al 5 0 []))], [(true, [.o .u]), (true, [.o .u]), (true, [.o .u]), (true, [.o .u]), (true, [.o (.sl true 1)]), (true, [.o (.sl true 1)])]⟩)]
noncomputable def RsPackOps_10 : KC xsPackOps_10 (hsPackOps_10.K → hsPackOps_10.K) := fun k0 k1 nx v1 v2 v3 v4 v5 v6 v7 v8 v9 => bif decide (v5 < v4) then ix v5 v2 ((v2[Int.toNat v5]?).bind fun w1 => tRo [.int .i64, .int .i64, .int .i64] w1 fun n1 n2 n3 => cV false [.bool] (FsOpOk [.agg [.int n1, .int n2, .int n3]]) fun b1 => bif !b1 then k0 v1 v2 false v3 v4 v6 v7 v8 v9 (some true) [] else ix v5 v2 ((v2[Int.toNat v5]?).bind fun w2 => tRo [.int .i64, .int .i64, .int .i64] w2 fun n4 n5 n6 => cV false [.sl 1] (FsPackOp [.agg [.int n4, .int n5, .int n6]]) fun o1 l1 => cV false [.sl 1] (Fsl01Join [.one (.sl false v8 1 (freezeRows v9)), .one (.sl false o1 1 (freezeRows l1))]) fun o2 l2 => nx v1 v2 v3 v4 (W (v5 + 1)) v6 v7 o2 l2)) else k1 v1 v2 v3 v4 v6 v7 v8 v9
noncomputable def LsPackOps_10 : Lp := ⟨10, [0, 4, 5, 6, 7, 8], [0, 2, 3, 4, 5, 6, 7], 4, 77, hsPackOps_10, xsPackOps_10, RsPackOps_10⟩
@[reducible] def hsPackOps_3 : Sh := ⟨[.one (.o (.sl false 3)), .one (.o (.al 2 0 [])), .one (.o (.i .i64))], [(true, [.o .u]), (true, [.o .u]), (true, [.o (.sl true 1)])]⟩
@[reducible] def xsPackOps_3 : List (Ex × Sh) := [(.ret, ⟨[.one (.o (.al 6 0 [])), .one (.o .b), .one (.o (.al 4 0 []))], [(true, [.o .u]), (true, [.o .u]), (true, [.o .u]), (true, [.o .u]), (true, [.o (.sl true 1)]), (true, [.o (.sl true 1)]), (true, [.o (.sl true 1)])]⟩), (.ret, ⟨[.one (.o (.al 10 0 [])), .one (.o .b), .one (.o (.al 4 0 []))], [(true, [.o .u]), (true, [.o .u]), (true, [.o .u]), (true, [.o .u]), (true, [.o (.sl true 1)]), (true, [.o (.sl true 1)]), (true, [.o (.sl true 1)]), (true, [.o .u]), (true, [.o (.sl true 1)]), (true, [.o (.sl true 1)]), (true, [.o (.sl true 1)])]⟩), (.exit 0, ⟨[.one (.o .u), .one (.o .u), .one (.o (.al 2 0 []))], [(true, [.o .u]), (true, [.o .u]), (true, [.o (.sl true 1)])]⟩)]
noncomputable def RsPackOps_3 : KC xsPackOps_3 (hsPackOps_3.K → hsPackOps_3.K) := fun k0 k1 k2 nx v1 v2 v3 v4 v5 => bif decide (v3 < (v2.length : Int)) then bif decide (W (v3 + 16) > (v2.length : Int)) then iterC (RsPackOps_10 (fun y1 y2 y3 y4 y5 y6 y7 y8 y9 y10 y11 => k0 y3 y6 y7 y8 y9 y10 y11) (fun y12 y13 y14 y15 y16 y17 y18 y19 => cV false [.sl 1] (Fsl01Join [.one (.sl false (some false) 1 [[C.v (.int .u8 (B8 (W (y15 - y14))))], [C.v (.int .u8 (B8 ((y19.length : Int))))]]), .one (.sl false y18 1 (freezeRows y19))]) fun o1 l1 => cV false [.int .i64] (FsSumBytes [.one (.sl false o1 1 (freezeRows l1))]) fun n1 => if (l1.length + 2) * 1 ≤ LIM then bif decide (((l1 ++ [[C.v (.int .u8 (B8 (W (Int.tdiv n1 256))))], [C.v (.int .u8 (B8 (Int.tmod n1 256)))]]).length : Int) > W (4000 - (y17.length : Int))) then k1 false y16 y17 y18 y19 (some false) [[C.v (.int .u8 (B8 (W (y15 - y14))))], [C.v (.int .u8 (B8 ((y19.length : Int))))]] (some false) [[C.v (.int .u8 (B8 (W (Int.tdiv n1 256))))], [C.v (.int .u8 (B8 (Int.tmod n1 256)))]] (apNl o1 [[]]) (l1 ++ [[C.v (.int .u8 (B8 (W (Int.tdiv n1 256))))], [C.v (.int .u8 (B8 (Int.tmod n1 256)))]]) (some true) [] else cV false [.sl 1] (Fsl01Join [.one (.sl false y16 1 (freezeRows y17)), .one (.sl false (apNl o1 [[]]) 1 (freezeRows (l1 ++ [[C.v (.int .u8 (B8 (W (Int.tdiv n1 256))))], [C.v (.int .u8 (B8 (Int.tmod n1 256)))]])))]) fun o2 l2 => nx y12 y13 (W (y14 + 16)) o2 l2 else none)) FUEL v1 v2 v3 (v2.length : Int) v3 v4 v5 (some false) [] else iterC (RsPackOps_10 (fun y20 y21 y22 y23 y24 y25 y26 y27 y28 y29 y30 => k0 y22 y25 y26 y27 y28 y29 y30) (fun y31 y32 y33 y34 y35 y36 y37 y38 => cV false [.sl 1] (Fsl01Join [.one (.sl false (some false) 1 [[C.v (.int .u8 (B8 (W (y34 - y33))))], [C.v (.int .u8 (B8 ((y38.length : Int))))]]), .one (.sl false y37 1 (freezeRows y38))]) fun o3 l3 => cV false [.int .i64] (FsSumBytes [.one (.sl false o3 1 (freezeRows l3))]) fun n2 => if (l3.length + 2) * 1 ≤ LIM then bif decide (((l3 ++ [[C.v (.int .u8 (B8 (W (Int.tdiv n2 256))))], [C.v (.int .u8 (B8 (Int.tmod n2 256)))]]).length : Int) > W (4000 - (y36.length : Int))) then k1 false y35 y36 y37 y38 (some false) [[C.v (.int .u8 (B8 (W (y34 - y33))))], [C.v (.int .u8 (B8 ((y38.length : Int))))]] (some false) [[C.v (.int .u8 (B8 (W (Int.tdiv n2 256))))], [C.v (.int .u8 (B8 (Int.tmod n2 256)))]] (apNl o3 [[]]) (l3 ++ [[C.v (.int .u8 (B8 (W (Int.tdiv n2 256))))], [C.v (.int .u8 (B8 (Int.tmod n2 256)))]]) (some true) [] else cV false [.sl 1] (Fsl01Join [.one (.sl false y35 1 (freezeRows y36)), .one (.sl false (apNl o3 [[]]) 1 (freezeRows (l3 ++ [[C.v (.int .u8 (B8 (W (Int.tdiv n2 256))))], [C.v (.int .u8 (B8 (Int.tmod n2 256)))]])))]) fun o4 l4 => nx y31 y32 (W (y33 + 16)) o4 l4 else none)) FUEL v1 v2 v3 (W (v3 + 16)) v3 v4 v5 (some false) [] else k2 v4 v5
noncomputable def LsPackOps_3 : Lp := ⟨3, [0, 4, 5], [2, 3, 4], 2, 77, hsPackOps_3, xsPackOps_3, RsPackOps_3⟩
noncomputable def QsPackOps : Fx := ⟨Go.Proofs.Try.f29, [.ro], false, mkEnv tys_y4 [(75, SsOpOk), (76, Ssl01Join), (77, SsPackOp), (78, SsSumBytes)] [], fun _ => .stop, [LsPackOps_10, LsPackOps_3]⟩
noncomputable def FsPackOps : List S → Option Res := veil QsPackOps.run
noncomputable def SsPackOps : Spec := ⟨[.ro], false, FsPackOps⟩
theorem msPackOps (x1 : Option Bool) (x2 : List (List C)) : FsPackOps [.one (.sl false x1 3 x2)] = iterC (RsPackOps_3 (fun y1 y2 y3 y4 y5 y6 y7 => fr false 1 [.one (.sl true y6 1 y7), .one (.bool y1)]) (fun y8 y9 y10 y11 y12 y13 y14 y15 y16 y17 y18 y19 y20 => fr false 1 [.one (.sl true y19 1 y20), .one (.bool y8)]) (fun y21 y22 => fr false 1 [.one (.sl true y21 1 y22), .one (.bool true)])) FUEL x1 x2 0 (some false) [] := Fx.eq (by kernel_rfl)
theorem stsPackOps_10 : LsPackOps_10.Step QsPackOps.E QsPackOps.dr QsPackOps.lp ((findLoop 10 QsPackOps.code).getD .skip) := fun k nx v => by kernel_rfl
theorem stsPackOps_3 : LsPackOps_3.Step QsPackOps.E QsPackOps.dr QsPackOps.lp ((findLoop 3 QsPackOps.code).getD .skip) := fun k nx v => by kernel_rfl
theorem oksPackOps : CalleeOk Go.Proofs.Try.prog 29 SsPackOps := Fx.ok (F := QsPackOps) follows (envTy_mk tys_y4_eq) (envSpec_of (specsOk_cons oksOpOk (specsOk_cons oksl01Join (specsOk_cons oksPackOp (specsOk_cons oksSumBytes specsOk_nil))))) Go.Proofs.Try.func29 (by kernel_rfl) (by kernel_rfl) (by
  rw [show subs QsPackOps.code = [(findLoop 3 QsPackOps.code).getD .skip, (findLoop 10 QsPackOps.code).getD .skip] by kernel_rfl]
  exact ⟨stepAt_some (by kernel_rfl) stsPackOps_3, stepAt_some (by kernel_rfl) stsPackOps_10, trivial⟩) (by kernel_rfl) (by kernel_rfl) rfl
theorem in_pack (l : List OpR) (nl : Option Bool) (i T : Nat) (hT : i ≤ T) (hTl : T ≤ l.length) (hT16 : T ≤ i + 16) (out : List Int) (hl : l.length ≤ 1048576) (Q : Res → Prop) (K0 K1)
    (hK0 : ∀ nlb bd, ((l.drop i).take (T - i)).all opOk = false → Ok (K0 nl (l.map encOp) false (i : Int) (T : Int) (some false) (out.map encB) nlb bd (some true) []) Q)
    (hK1 : ((l.drop i).take (T - i)).all opOk = true → Ok (K1 nl (l.map encOp) (i : Int) (T : Int) (some false) (out.map encB) (some false) ((((l.drop i).take (T - i)).flatMap opBytes).map encB)) Q) :
    Ok (iterC (RsPackOps_10 K0 K1) FUEL nl (l.map encOp) (i : Int) (T : Int) (i : Int) (some false) (out.map encB) (some false) []) Q := by
  have h0 : ((i : Int)) = ((i + 0 : Nat) : Int) := by simp
  refine iter_ok (h := hsPackOps_10) (T - i) (fun m (x : List Int) f => f nl (l.map encOp) (i : Int) (T : Int) ((i + m : Nat) : Int) (some false) (out.map encB) (some false) (x.map encB)) (fun m x => x = ((l.drop i).take m).flatMap opBytes ∧ ((l.drop i).take m).all opOk = true) Q (by omega) ?_ ?_ [] ⟨by simp, by simp⟩
  · intro nx x ⟨hx, ho⟩
    subst hx
    have e : ¬ ((i + (T - i) : Nat) : Int) < (T : Int) := by omega
    exact ok_of (by simp [-Int.natCast_add, RsPackOps_10, e]) (hK1 ho)
  · intro nx m x hm ⟨hx, ho⟩ _ hnx
    have e : ((i + m : Nat) : Int) < (T : Int) := by omega
    have him : i + m < l.length := by omega
    have hw : W (((i + m : Nat) : Int) + 1) = ((i + (m + 1) : Nat) : Int) := by rw [W_eq (by omega) (by omega)]; omega
    have htk : (l.drop i).take (m + 1) = (l.drop i).take m ++ [l[i + m]] := by
      rw [List.take_succ_eq_append_getElem (by rw [List.length_drop]; omega), List.getElem_drop]
    have f1 := FsOpOk_at l[i + m]
    cases hok : opOk l[i + m] with
    | false =>
      rw [hok] at f1
      refine ok_of (by simp [-Int.natCast_add, RsPackOps_10, e, him, f1]; rfl) (hK0 _ _ ?_)
      rw [Bool.eq_false_iff]
      intro h
      have hmem : l[i + m] ∈ (l.drop i).take (T - i) := by
        have h1 : (l.drop i)[m]? = some l[i + m] := by rw [List.getElem?_drop, List.getElem?_eq_getElem him]
        have h2 : ((l.drop i).take (T - i))[m]? = some l[i + m] := by rw [List.getElem?_take, if_pos hm, h1]
        exact List.mem_of_getElem? h2
      have := List.all_eq_true.1 h _ hmem
      rw [hok] at this
      cases this
    | true =>
      rw [hok] at f1
      have f2 := FsPackOp_at l[i + m]
      rw [hok] at f2
      have hxl : x.length ≤ 1000 := by
        have := flat_len ((l.drop i).take m)
        rw [← hx, List.length_take] at this
        omega
      have hbl := opBytes_len l[i + m]
      have f3 := Fsl01Join_at (some false) x (some false) (opBytes l[i + m]) ⟨by omega, by omega⟩
      have := hnx (x ++ opBytes l[i + m]) ⟨by rw [htk, hx]; simp, by rw [htk, List.all_append, ho]; simp [hok]⟩
      refine ok_of ?_ this
      simp [-Int.natCast_add, -List.map_append, RsPackOps_10, e, him, f1, f2, f3, hw]
theorem FsPackOps_at (nl : Option Bool) (l : List OpR) (hl : l.length ≤ 1048576) : FsPackOps [S.one (C.sl false nl 3 (l.map encOp))] = some (packRes (packS ((l.length + 15) / 16) l []), [S.one C.unk]) := by
  have key : Ok (FsPackOps [S.one (C.sl false nl 3 (l.map encOp))]) (fun r => r = (packRes (packS ((l.length + 15) / 16) l []), [S.one C.unk])) := by
    rw [msPackOps]
    generalize hP : packS ((l.length + 15) / 16) l [] = P
    refine iter_ok (h := hsPackOps_3) ((l.length + 15) / 16) (fun j (x : List Int) f => f nl (l.map encOp) ((16 * j : Nat) : Int) (some false) (x.map encB)) (fun j x => bOk x ∧ x.length ≤ 4000 ∧ packS ((l.length + 15) / 16 - j) (l.drop (16 * j)) x = P) _ (by omega) ?_ ?_ [] ⟨(fun x hx => absurd hx (by simp)), by simp, by simpa using hP⟩
    · intro nx x ⟨hb, hxl, hp⟩
      rw [Nat.sub_self, packS] at hp
      have e : ¬ ((16 * ((l.length + 15) / 16) : Nat) : Int) < (l.length : Int) := by omega
      refine ok_eq (r := (packRes P, [S.one C.unk])) ?_ rfl
      rw [← hp]
      simp [-Int.natCast_mul, -Int.natCast_ediv, RsPackOps_3, e, packRes]
    · intro nx j x hj ⟨hb, hxl, hp⟩ _ hnx
      obtain ⟨I, hI⟩ : ∃ I : Nat, I = 16 * j := ⟨_, rfl⟩
      rw [← hI] at hp
      have hIl : I < l.length := by omega
      have hIl' : (I : Int) < (l.length : Int) := by omega
      obtain ⟨f, hf⟩ : ∃ f, (l.length + 15) / 16 - j = f + 1 := ⟨(l.length + 15) / 16 - j - 1, by omega⟩
      rw [hf, packS] at hp
      have hf' : f = (l.length + 15) / 16 - (j + 1) := by omega
      have w1 : W ((I : Int) + 16) = ((I + 16 : Nat) : Int) := by rw [W_eq (by omega) (by omega)]; omega
      simp only [← hI]
      have main : ∀ T : Nat, I ≤ T → T ≤ l.length → T ≤ I + 16 → (l.drop I).take 16 = (l.drop I).take (T - I) →
          Ok (iterC (RsPackOps_10 (fun y1 y2 y3 y4 y5 y6 y7 y8 y9 y10 y11 => fr false 1 [.one (.sl true y10 1 y11), .one (.bool y3)]) (fun y12 y13 y14 y15 y16 y17 y18 y19 => cV false [.sl 1] (Fsl01Join [.one (.sl false (some false) 1 [[C.v (.int .u8 (B8 (W (y15 - y14))))], [C.v (.int .u8 (B8 ((y19.length : Int))))]]), .one (.sl false y18 1 (freezeRows y19))]) fun o1 l1 => cV false [.int .i64] (FsSumBytes [.one (.sl false o1 1 (freezeRows l1))]) fun n1 => if (l1.length + 2) * 1 ≤ LIM then bif decide (((l1 ++ [[C.v (.int .u8 (B8 (W (Int.tdiv n1 256))))], [C.v (.int .u8 (B8 (Int.tmod n1 256)))]]).length : Int) > W (4000 - (y17.length : Int))) then fr false 1 [.one (.sl true (some true) 1 []), .one (.bool false)] else cV false [.sl 1] (Fsl01Join [.one (.sl false y16 1 (freezeRows y17)), .one (.sl false (apNl o1 [[]]) 1 (freezeRows (l1 ++ [[C.v (.int .u8 (B8 (W (Int.tdiv n1 256))))], [C.v (.int .u8 (B8 (Int.tmod n1 256)))]])))]) fun o2 l2 => nx y12 y13 (W (y14 + 16)) o2 l2 else none)) FUEL nl (l.map encOp) (I : Int) (T : Int) (I : Int) (some false) (x.map encB) (some false) []) (fun r => r = (packRes P, [S.one C.unk])) := by
        intro T h1 h2 h3 hc
        refine in_pack l nl I T h1 h2 h3 x hl _ _ _ (fun nlb bd ho => ?_) (fun ho => ?_)
        · rw [hc, if_neg (fun h => by rw [h.1] at ho; cases ho)] at hp
          refine ok_eq (r := (packRes P, [S.one C.unk])) ?_ rfl
          rw [← hp]
          simp [packRes]
        · rw [hc] at hp
          generalize hC : (l.drop I).take (T - I) = c at *
          have hcl : c.length = T - I := by rw [← hC, List.length_take, List.length_drop]; omega
          have hfl := flat_len c
          have w2 : W ((T : Int) - (I : Int)) = (c.length : Int) := by rw [W_eq (by omega) (by omega)]; omega
          have w3 : B8 (c.length : Int) = (c.length : Int) := B8_eq (by omega) (by omega)
          have w4 : B8 ((c.flatMap opBytes).length : Int) = ((c.flatMap opBytes).length : Int) := B8_eq (by omega) (by omega)
          have f1 := Fsl01Join_at (some false) [(c.length : Int), ((c.flatMap opBytes).length : Int)] (some false) (c.flatMap opBytes) ⟨by simp, by omega⟩
          have hpk : [(c.length : Int), ((c.flatMap opBytes).length : Int)] ++ c.flatMap opBytes = packH c := rfl
          rw [hpk] at f1
          have hHe : (packH c).length = (c.flatMap opBytes).length + 2 := rfl
          have f2 := FsSumBytes_at (some false) (packH c) ⟨packH_ok ho (by omega), by omega⟩
          have hs := sumB_range (packH c)
          have w5 : Int.tdiv (sumB (packH c)) 256 = sumB (packH c) / 256 := Int.tdiv_eq_ediv_of_nonneg hs.1
          have w6 : Int.tmod (sumB (packH c)) 256 = sumB (packH c) % 256 := Int.tmod_eq_emod_of_nonneg hs.1
          have w7 : W (sumB (packH c) / 256) = sumB (packH c) / 256 := W_eq (by omega) (by omega)
          have w8 : B8 (sumB (packH c) / 256) = sumB (packH c) / 256 := B8_eq (by omega) (by omega)
          have w9 : B8 (sumB (packH c) % 256) = sumB (packH c) % 256 := B8_eq (by omega) (by omega)
          have w10 : W (4000 - (x.length : Int)) = 4000 - (x.length : Int) := W_eq (by omega) (by omega)
          have hHl : (packH c).length ≤ 40 := by omega
          have hL : (packH c).length + 2 ≤ LIM := by unfold LIM; omega
          have hbl : (packBlock c).length = (packH c).length + 2 := by simp [packBlock]
          have hbm : (packH c).map encB ++ [[.v (.int .u8 (sumB (packH c) / 256))], [.v (.int .u8 (sumB (packH c) % 256))]] = (packBlock c).map encB := by simp [packBlock]
          have f3 := Fsl01Join_at (some false) x (some false) (packBlock c) ⟨by omega, by omega⟩
          simp only [List.map_cons, List.map_nil] at f1
          by_cases hg : (packBlock c).length + x.length ≤ 4000
          · rw [if_pos ⟨ho, hg⟩] at hp
            have hg' : ¬ (4000 - (x.length : Int) < (((packH c).length + 2 : Nat) : Int)) := by omega
            have := hnx (x ++ packBlock c) ⟨bOk_app hb (packBlock_ok ho (by omega)), by rw [List.length_append]; omega, by rw [← hf', ← hp, hI, List.drop_drop]; congr 2⟩
            refine ok_of ?_ this
            rw [show ((16 * (j + 1) : Nat) : Int) = ((I + 16 : Nat) : Int) by omega]
            simp [-Int.natCast_add, -List.map_append, -List.length_flatMap, w1, w2, w3, w4, f1, f2, hL, w5, w6, w7, w8, w9, w10, hbm, hg', f3]
          · rw [if_neg (fun h => hg h.2)] at hp
            have hg' : (4000 - (x.length : Int) < (((packH c).length + 2 : Nat) : Int)) := by omega
            refine ok_eq (r := (packRes P, [S.one C.unk])) ?_ rfl
            rw [← hp]
            simp [-Int.natCast_add, -List.map_append, -List.length_flatMap, w1, w2, w3, w4, f1, f2, hL, w5, w6, w7, w8, w9, w10, hbm, hg', packRes]
      by_cases hg : ((I + 16 : Nat) : Int) > (l.length : Int)
      · refine ok_of ?_ (main l.length (by omega) (Nat.le_refl _) (by omega) ?_)
        · simp only [RsPackOps_3, List.length_map, hIl', decide_true, cond_true, w1, hg]
        · rw [List.take_of_length_le (by rw [List.length_drop]; omega), List.take_of_length_le (by rw [List.length_drop]; omega)]
      · refine ok_of ?_ (main (I + 16) (by omega) (by omega) (Nat.le_refl _) ?_)
        · simp only [RsPackOps_3, List.length_map, hIl', decide_true, cond_true, w1, hg, decide_false, cond_false]
        · congr 1; omega
  obtain ⟨r, h1, rfl⟩ := key
  exact h1
end Go.Proofs.Gh.Gm
set_option linter.unusedVariables false
set_option linter.unusedSimpArgs false
set_option maxRecDepth 100000
set_option maxHeartbeats 2000000
namespace Go.Proofs.Gh.Gm
def tys_y5 : List (Nat × TI) := [(3, ⟨false, 8, [.int .i64], [.int 0], .scalar, false, none⟩),
  (4, ⟨false, 1, [.bool], [.bool false], .scalar, false, none⟩),
  (5, ⟨false, 1, [.int .u8], [.v (.int .u8 0)], .scalar, false, none⟩),
  (23, ⟨false, 24, [.sl 1], [.sl true (some true) 1 []], .slice 3, false, none⟩),
  (38, ⟨false, 24, [.sl 1], [.sl true (some true) 1 []], .slice 5, false, none⟩),
  (40, ⟨false, 24, [.sl 3], [.sl true (some true) 3 []], .slice 104, false, none⟩),
  (42, ⟨false, 0, [], [], .tuple [38, 4], false, none⟩),
  (104, ⟨true, 24, [.int .i64, .int .i64, .int .i64], [.int 0, .int 0, .int 0], .struct [(0, 1, false), (1, 1, false), (2, 1, false)], true, none⟩),
  (112, ⟨false, 8, [.other], [.v (Value.pointer none)], .scalar, false, none⟩)]
theorem tys_y5_eq : tys_y5.map (fun x => tiOf Go.Proofs.Try.prog x.1 x.2.cks) = tys_y5.map fun x => some x.2 := by kernel_rfl
/-! sl01DrawBytes: loop.example/g00712/spec.l01DrawBytes -/
@[reducible] def hsl01DrawBytes_3 : Sh := ⟨[.one (.o (.pl 0 0 [])), .one (.o (.i .i64)), .one (.o (.al 3 0 [])), .one (.o (.i .i64))], [(false, [.o (.sl false 1), .o (.i .i64), .o (.i .i64)]), (true, [.o .u]), (true, [.o .u]), (true, [.o (.sl true 1)])]⟩
@[reducible] def xsl01DrawBytes_3 : List (Ex × Sh) := [(.exit 0, ⟨[.one (.o (.al 3 0 []))], [(false, [.o (.sl false 1), .o (.i .i64), .o (.i .i64)]), (true, [.o .u]), (true, [.o .u]), (true, [.o (.sl true 1)])]⟩)]
noncomputable def Rsl01DrawBytes_3 : KC xsl01DrawBytes_3 (hsl01DrawBytes_3.K → hsl01DrawBytes_3.K) := fun k0 nx v1 v2 v3 v4 v5 v6 v7 v8 => bif decide (v2 < v1) then cOV [.cub 1] false [.int .i64] (Fsl01Below [.one (.bx [.sl false v3 1 v4, .int v5, .int v6]), .one (.int 256)]) fun o1 l1 n1 n2 n3 => cOV [.cub 1] false [.int .i64] (Fsl01Below [.one (.bx [.sl false o1 1 l1, .int n1, .int n2]), .one (.int 256)]) fun o2 l2 n4 n5 n6 => cOV [.cub 1] false [.int .i64] (Fsl01PickInt [.one (.bx [.sl false o2 1 l2, .int n4, .int n5]), .one (.sl true (some false) 1 [[.int 0], [.int 1], [.int 255], [.int 128], [.int n3], [.int n6]])]) fun o3 l3 n7 n8 n9 => if (v8.length + 1) * 1 ≤ LIM then nx v1 (W (v2 + 1)) o3 l3 n7 n8 (apNl v7 [[]]) (v8 ++ [[C.v (.int .u8 (B8 (n9)))]]) else none else k0 v3 v4 v5 v6 v7 v8
noncomputable def Lsl01DrawBytes_3 : Lp := ⟨3, [0, 1, 5, 6], [5], 3, 25, hsl01DrawBytes_3, xsl01DrawBytes_3, Rsl01DrawBytes_3⟩
noncomputable def Qsl01DrawBytes : Fx := ⟨Go.Proofs.Try.f138, [.io, .ro], true, mkEnv tys_y5 [(128, Ssl01Below), (149, Ssl01PickInt)] [(128, [.cub 1]), (149, [.cub 1])], fun _ => .stop, [Lsl01DrawBytes_3]⟩
noncomputable def Fsl01DrawBytes : List S → Option Res := veil Qsl01DrawBytes.run
noncomputable def Ssl01DrawBytes : Spec := ⟨[.io, .ro], true, Fsl01DrawBytes⟩
theorem msl01DrawBytes (x1 : Option Bool) (x2 : List (List C)) (x3 : Int) (x4 : Int) (x5 : Int) : Fsl01DrawBytes [.one (.bx [.sl false x1 1 x2, .int x3, .int x4]), .one (.int x5)] = iterC (Rsl01DrawBytes_3 (fun y1 y2 y3 y4 y5 y6 => fin true [.one (.bx [.sl false x1 1 x2, .int x3, .int x4]), .one (.int x5)] [.one (.sl true y5 1 y6)] [.one (.bx [.sl false y1 1 y2, .int y3, .int y4]), .one .unk])) FUEL x5 0 x1 x2 x3 x4 (some false) [] := Fx.eq (by kernel_rfl)
theorem stsl01DrawBytes_3 : Lsl01DrawBytes_3.Step Qsl01DrawBytes.E Qsl01DrawBytes.dr Qsl01DrawBytes.lp ((findLoop 3 Qsl01DrawBytes.code).getD .skip) := fun k nx v => by kernel_rfl
theorem oksl01DrawBytes : CalleeOk Go.Proofs.Try.prog 138 Ssl01DrawBytes := Fx.ok (F := Qsl01DrawBytes) follows (envTy_mk tys_y5_eq) (envSpec_of (specsOk_cons oksl01Below (specsOk_cons oksl01PickInt specsOk_nil))) Go.Proofs.Try.func138 (by kernel_rfl) (by kernel_rfl) (by
  rw [show subs Qsl01DrawBytes.code = [(findLoop 3 Qsl01DrawBytes.code).getD .skip] by kernel_rfl]
  exact ⟨stepAt_some (by kernel_rfl) stsl01DrawBytes_3, trivial⟩) (by kernel_rfl) (by kernel_rfl) rfl
theorem lpBytes (n : Nat) (hn : n ≤ 100000) (Q : Res → Prop) (K) (hK : ∀ (c' : Cu) (l : List Int), cuOk c' → bOk l → l.length = n → Ok (K c'.o (c'.bs.map encB) c'.i c'.h (some false) (l.map encB)) Q) (c : Cu) (hc : cuOk c) :
    Ok (iterC (Rsl01DrawBytes_3 K) FUEL (n : Int) 0 c.o (c.bs.map encB) c.i c.h (some false) []) Q := by
  refine iter_ok (h := hsl01DrawBytes_3) n (fun i (a : Cu × List Int) f => f (n : Int) (i : Int) a.1.o (a.1.bs.map encB) a.1.i a.1.h (some false) (a.2.map encB)) (fun i a => cuOk a.1 ∧ bOk a.2 ∧ a.2.length = i) Q (by omega) ?_ ?_ (c, []) ⟨hc, (fun x hx => absurd hx (by simp)), rfl⟩
  · intro nx a ⟨h1, h2, h3⟩
    exact ok_of (by simp [Rsl01DrawBytes_3]) (hK a.1 a.2 h1 h2 h3)
  · intro nx i a hi ⟨h1, h2, h3⟩ hW hnx
    have hlt : (i : Int) < (n : Int) := by omega
    have hL : a.2.length + 1 ≤ LIM := by unfold LIM; omega
    simp only [Rsl01DrawBytes_3, hlt, decide_true, cond_true]
    refine ok_below h1 fun x c1 hc1 _ _ => ok_below hc1 fun y c2 hc2 _ _ => ok_pick (l := [0, 1, 255, 128, x, y]) hc2 rfl (by simp) fun z c3 hc3 _ => ?_
    have hz := B8_range z
    have := hnx (c3, a.2 ++ [B8 z]) ⟨hc3, bOk_app h2 (fun x hx => by simp at hx; subst hx; exact hz), by simp [h3]⟩
    exact ok_of (by simp [hL, hW]) this
theorem dBytes (c : Cu) (n : Nat) (hc : cuOk c) (hn : n ≤ 100000) : ∃ (l : List Int) (c' : Cu), Fsl01DrawBytes [.one (encCu c), .one (.int n)] = some (.one (.sl true (some false) 1 (l.map encB)), [.one (encCu c'), .one .unk]) ∧ cuOk c' ∧ bOk l ∧ l.length = n := by
  have key : Ok (Fsl01DrawBytes [.one (encCu c), .one (.int n)]) (fun r => ∃ (l : List Int) (c' : Cu), r = (.one (.sl true (some false) 1 (l.map encB)), [.one (encCu c'), .one .unk]) ∧ cuOk c' ∧ bOk l ∧ l.length = n) := by
    rw [msl01DrawBytes]
    exact lpBytes n hn _ _ (fun c' l h1 h2 h3 => ok_eq (r := (.one (.sl true (some false) 1 (l.map encB)), [.one (encCu c'), .one .unk])) (by simp) ⟨l, c', rfl, h1, h2, h3⟩) c hc
  obtain ⟨r, h1, l, c', rfl, h2⟩ := key
  exact ⟨l, c', h1, h2⟩
/-! sl17DrawOps: loop.example/g00712/spec.l17DrawOps -/
@[reducible] def hsl17DrawOps_3 : Sh := ⟨[.one (.o (.pl 0 0 [])), .one (.o (.i .i64)), .one (.o (.al 3 0 [])), .one (.o (.i .i64))], [(false, [.o (.sl false 1), .o (.i .i64), .o (.i .i64)]), (true, [.o .u]), (true, [.o .u]), (true, [.o (.sl true 3)])]⟩
@[reducible] def xsl17DrawOps_3 : List (Ex × Sh) := [(.exit 0, ⟨[.one (.o (.al 3 0 []))], [(false, [.o (.sl false 1), .o (.i .i64), .o (.i .i64)]), (true, [.o .u]), (true, [.o .u]), (true, [.o (.sl true 3)])]⟩)]
noncomputable def Rsl17DrawOps_3 : KC xsl17DrawOps_3 (hsl17DrawOps_3.K → hsl17DrawOps_3.K) := fun k0 nx v1 v2 v3 v4 v5 v6 v7 v8 => bif decide (v2 < v1) then cOV [.cub 1] false [.int .i64] (Fsl01Below [.one (.bx [.sl false v3 1 v4, .int v5, .int v6]), .one (.int 7)]) fun o1 l1 n1 n2 n3 => (let q1 : (Option Bool) → (List (List C)) → Int → Int → Int → Option Res := fun z1 z2 z3 z4 z5 => (let q2 : (Option Bool) → (List (List C)) → Int → Int → Int → Option Res := fun z6 z7 z8 z9 z10 => cOV [.cub 1] false [.bool] (Fsl01Once [.one (.bx [.sl false z6 1 z7, .int z8, .int z9]), .one (.int 100)]) fun o2 l2 n4 n5 b1 => bif b1 then cOV [.cub 1] false [.int .i64] (Fsl01Below [.one (.bx [.sl false o2 1 l2, .int n4, .int n5]), .one (.int 3)]) fun o3 l3 n6 n7 n8 => bif n8 == 0 then cOV [.cub 1] false [.int .i64] (Fsl01PickInt [.one (.bx [.sl false o3 1 l3, .int n6, .int n7]), .one (.sl true (some false) 1 [[.int (-1)], [.int 7], [.int 0]])]) fun o4 l4 n9 n10 n11 => if (v8.length + 1) * 24 ≤ LIM then nx v1 (W (v2 + 1)) o4 l4 n9 n10 (apNl v7 [[]]) (v8 ++ [[.int n11, .int z5, .int z10]]) else none else bif n8 == 1 then cOV [.cub 1] false [.int .i64] (Fsl01PickInt [.one (.bx [.sl false o3 1 l3, .int n6, .int n7]), .one (.sl true (some false) 1 [[.int (-1)], [.int 5], [.int 1]])]) fun o5 l5 n12 n13 n14 => if (v8.length + 1) * 24 ≤ LIM then nx v1 (W (v2 + 1)) o5 l5 n12 n13 (apNl v7 [[]]) (v8 ++ [[.int n3, .int n14, .int z10]]) else none else bif n8 == 2 then cOV [.cub 1] false [.int .i64] (Fsl01PickInt [.one (.bx [.sl false o3 1 l3, .int n6, .int n7]), .one (.sl true (some false) 1 [[.int 0], [.int 61], [.int 1]])]) fun o6 l6 n15 n16 n17 => if (v8.length + 1) * 24 ≤ LIM then nx v1 (W (v2 + 1)) o6 l6 n15 n16 (apNl v7 [[]]) (v8 ++ [[.int n3, .int z5, .int n17]]) else none else if (v8.length + 1) * 24 ≤ LIM then nx v1 (W (v2 + 1)) o3 l3 n6 n7 (apNl v7 [[]]) (v8 ++ [[.int n3, .int z5, .int z10]]) else none else if (v8.length + 1) * 24 ≤ LIM then nx v1 (W (v2 + 1)) o2 l2 n4 n5 (apNl v7 [[]]) (v8 ++ [[.int n3, .int z5, .int z10]]) else none; cV false [.bool] (Fsl17HasX [.one (.int n3)]) fun b2 => bif b2 then cOV [.cub 1] false [.int .i64] (Fsl01Below [.one (.bx [.sl false z1 1 z2, .int z3, .int z4]), .one (.int 60)]) fun o7 l7 n18 n19 n20 => q2 o7 l7 n18 n19 (W (1 + n20)) else q2 z1 z2 z3 z4 0); bif decide (n3 > 0) then cOV [.cub 1] false [.int .i64] (Fsl01Below [.one (.bx [.sl false o1 1 l1, .int n1, .int n2]), .one (.int 5)]) fun o8 l8 n21 n22 n23 => q1 o8 l8 n21 n22 n23 else q1 o1 l1 n1 n2 0) else k0 v3 v4 v5 v6 v7 v8
noncomputable def Lsl17DrawOps_3 : Lp := ⟨3, [0, 1, 5, 6], [5], 3, 57, hsl17DrawOps_3, xsl17DrawOps_3, Rsl17DrawOps_3⟩
noncomputable def Qsl17DrawOps : Fx := ⟨Go.Proofs.Try.f129, [.io, .ro], true, mkEnv tys_y5 [(100, Ssl01Once), (128, Ssl01Below), (130, Ssl17HasX), (149, Ssl01PickInt)] [(100, [.cub 1]), (128, [.cub 1]), (149, [.cub 1])], fun _ => .stop, [Lsl17DrawOps_3]⟩
noncomputable def Fsl17DrawOps : List S → Option Res := veil Qsl17DrawOps.run
noncomputable def Ssl17DrawOps : Spec := ⟨[.io, .ro], true, Fsl17DrawOps⟩
theorem msl17DrawOps (x1 : Option Bool) (x2 : List (List C)) (x3 : Int) (x4 : Int) (x5 : Int) : Fsl17DrawOps [.one (.bx [.sl false x1 1 x2, .int x3, .int x4]), .one (.int x5)] = iterC (Rsl17DrawOps_3 (fun y1 y2 y3 y4 y5 y6 => fin true [.one (.bx [.sl false x1 1 x2, .int x3, .int x4]), .one (.int x5)] [.one (.sl true y5 3 y6)] [.one (.bx [.sl false y1 1 y2, .int y3, .int y4]), .one .unk])) FUEL x5 0 x1 x2 x3 x4 (some false) [] := Fx.eq (by kernel_rfl)
theorem stsl17DrawOps_3 : Lsl17DrawOps_3.Step Qsl17DrawOps.E Qsl17DrawOps.dr Qsl17DrawOps.lp ((findLoop 3 Qsl17DrawOps.code).getD .skip) := fun k nx v => by kernel_rfl
theorem oksl17DrawOps : CalleeOk Go.Proofs.Try.prog 129 Ssl17DrawOps := Fx.ok (F := Qsl17DrawOps) follows (envTy_mk tys_y5_eq) (envSpec_of (specsOk_cons oksl01Once (specsOk_cons oksl01Below (specsOk_cons oksl17HasX (specsOk_cons oksl01PickInt specsOk_nil))))) Go.Proofs.Try.func129 (by kernel_rfl) (by kernel_rfl) (by
  rw [show subs Qsl17DrawOps.code = [(findLoop 3 Qsl17DrawOps.code).getD .skip] by kernel_rfl]
  exact ⟨stepAt_some (by kernel_rfl) stsl17DrawOps_3, trivial⟩) (by kernel_rfl) (by kernel_rfl) rfl
theorem lpOps (n : Nat) (hn : n ≤ 100000) (Q : Res → Prop) (K) (hK : ∀ (c' : Cu) (l : List OpR), cuOk c' → l.length = n → Ok (K c'.o (c'.bs.map encB) c'.i c'.h (some false) (l.map encOp)) Q) (c : Cu) (hc : cuOk c) :
    Ok (iterC (Rsl17DrawOps_3 K) FUEL (n : Int) 0 c.o (c.bs.map encB) c.i c.h (some false) []) Q := by
  refine iter_ok (h := hsl17DrawOps_3) n (fun i (a : Cu × List OpR) f => f (n : Int) (i : Int) a.1.o (a.1.bs.map encB) a.1.i a.1.h (some false) (a.2.map encOp)) (fun i a => cuOk a.1 ∧ a.2.length = i) Q (by omega) ?_ ?_ (c, []) ⟨hc, rfl⟩
  · intro nx a ⟨h1, h2⟩
    exact ok_of (by simp [Rsl17DrawOps_3]) (hK a.1 a.2 h1 h2)
  · intro nx i a hi ⟨h1, h2⟩ hW hnx
    have hlt : (i : Int) < (n : Int) := by omega
    have hL : (a.2.length + 1) * 24 ≤ LIM := by unfold LIM; omega
    have hfin : ∀ (c' : Cu) (k t x : Int), cuOk c' → Ok (if ((a.2.map encOp).length + 1) * 24 ≤ LIM then nx (n : Int) (W ((i : Int) + 1)) c'.o (c'.bs.map encB) c'.i c'.h (apNl (some false) [[]]) (a.2.map encOp ++ [[.int k, .int t, .int x]]) else none) Q := by
      intro c' k t x hc'
      have := hnx (c', a.2 ++ [⟨k, t, x⟩]) ⟨hc', by simp [h2]⟩
      refine ok_of ?_ this
      rw [List.length_map, if_pos hL, hW]
      simp
    simp -zeta -zetaHave only [Rsl17DrawOps_3, hlt, decide_true, cond_true]
    refine ok_below h1 fun k c1 hc1 _ _ => ?_
    extract_lets -underBinder q1
    have hq1 : ∀ (t : Int) (c : Cu), cuOk c → Ok (q1 c.o (c.bs.map encB) c.i c.h t) Q := by
      intro t c hc
      simp -zeta -zetaHave only [q1]
      extract_lets -underBinder q2
      have hq2 : ∀ (x : Int) (c : Cu), cuOk c → Ok (q2 c.o (c.bs.map encB) c.i c.h x) Q := by
        intro x c hc
        simp -zeta -zetaHave only [q2]
        refine ok_once hc fun b c2 hc2 => ?_
        cases b with
        | false => exact hfin c2 k t x hc2
        | true =>
          refine ok_below hc2 fun m c3 hc3 _ _ => ?_
          cases m == 0 with
          | true => exact ok_pick (l := [-1, 7, 0]) hc3 rfl (by simp) fun z c4 hc4 _ => hfin c4 z t x hc4
          | false =>
            cases m == 1 with
            | true => exact ok_pick (l := [-1, 5, 1]) hc3 rfl (by simp) fun z c4 hc4 _ => hfin c4 k z x hc4
            | false =>
              cases m == 2 with
              | true => exact ok_pick (l := [0, 61, 1]) hc3 rfl (by simp) fun z c4 hc4 _ => hfin c4 k t z hc4
              | false => exact hfin c3 k t x hc3
      clear_value q2
      rw [Fsl17HasX_at]
      cases inB k 1 3 with
      | true => exact ok_below hc fun z c3 hc3 _ _ => hq2 _ c3 hc3
      | false => exact hq2 0 c hc
    clear_value q1
    by_cases hk : k > 0
    · simp -zeta -zetaHave only [hk, decide_true, cond_true]
      exact ok_below hc1 fun z c3 hc3 _ _ => hq1 z c3 hc3
    · simp -zeta -zetaHave only [hk, decide_false, cond_false]
      exact hq1 0 c1 hc1
theorem dOps (c : Cu) (n : Nat) (hc : cuOk c) (hn : n ≤ 100000) : ∃ (l : List OpR) (c' : Cu), Fsl17DrawOps [.one (encCu c), .one (.int n)] = some (.one (.sl true (some false) 3 (l.map encOp)), [.one (encCu c'), .one .unk]) ∧ cuOk c' ∧ l.length = n := by
  have key : Ok (Fsl17DrawOps [.one (encCu c), .one (.int n)]) (fun r => ∃ (l : List OpR) (c' : Cu), r = (.one (.sl true (some false) 3 (l.map encOp)), [.one (encCu c'), .one .unk]) ∧ cuOk c' ∧ l.length = n) := by
    rw [msl17DrawOps]
    exact lpOps n hn _ _ (fun c' l h1 h2 => ok_eq (r := (.one (.sl true (some false) 3 (l.map encOp)), [.one (encCu c'), .one .unk])) (by simp) ⟨l, c', rfl, h1, h2⟩) c hc
  obtain ⟨r, h1, l, c', rfl, h2⟩ := key
  exact ⟨l, c', h1, h2⟩
/-! sl17DrawBytes: loop.example/g00712/spec.l17DrawBytes -/
@[reducible] def hsl17DrawBytes_5 : Sh := ⟨[.one (.o (.pl 1 0 [])), .one (.o (.al 4 0 [])), .one (.o (.al 5 0 [])), .one (.o (.i .i64))], [(true, [.o .u]), (false, [.o (.sl false 1), .o (.i .i64), .o (.i .i64)]), (true, [.o .u]), (true, [.o .u]), (true, [.o (.sl true 3)]), (true, [.o (.sl true 3)])]⟩
@[reducible] def xsl17DrawBytes_5 : List (Ex × Sh) := [(.exit 0, ⟨[.one (.o (.pl 1 0 [])), .one (.o (.al 4 0 []))], [(true, [.o .u]), (false, [.o (.sl false 1), .o (.i .i64), .o (.i .i64)]), (true, [.o .u]), (true, [.o .u]), (true, [.o (.sl true 3)]), (true, [.o (.sl true 3)])]⟩)]
noncomputable def Rsl17DrawBytes_5 : KC xsl17DrawBytes_5 (hsl17DrawBytes_5.K → hsl17DrawBytes_5.K) := fun k0 nx v1 v2 v3 v4 v5 v6 v7 v8 v9 => bif decide (v1 < (v9.length : Int)) then ix v1 v9 ((v9[Int.toNat v1]?).bind fun w1 => tOwn [.int .i64, .int .i64, .int .i64] w1 fun n9 n10 n11 => cV false [.bool] (FsOpOk [.agg [.int n9, .int n10, .int n11]]) fun b1 => bif b1 then ix v1 v9 ((v9[Int.toNat v1]?).bind fun w2 => tOwn [.int .i64, .int .i64, .int .i64] w2 fun n12 n13 n14 => if (v7.length + 1) * 24 ≤ LIM then nx (W (v1 + 1)) v2 v3 v4 v5 (apNl v6 [[]]) (v7 ++ [[.int n12, .int n13, .int n14]]) v8 v9 else none) else nx (W (v1 + 1)) v2 v3 v4 v5 v6 v7 v8 v9) else k0 v2 v3 v4 v5 v6 v7 v8 v9
noncomputable def Lsl17DrawBytes_5 : Lp := ⟨5, [3, 4, 5, 6], [3, 4], 4, 103, hsl17DrawBytes_5, xsl17DrawBytes_5, Rsl17DrawBytes_5⟩
noncomputable def Qsl17DrawBytes : Fx := ⟨Go.Proofs.Try.f87, [.ro], false, (mkEnv tys_y5 [(100, Ssl01Once), (128, Ssl01Below), (129, Ssl17DrawOps), (138, Ssl01DrawBytes), (29, SsPackOps), (75, SsOpOk), (76, Ssl01Join), (97, Ssl01New), (99, Ssl01Size)] [(100, [.cub 1]), (128, [.cub 1]), (129, [.cub 1]), (138, [.cub 1]), (97, [.cur 1])]).winS [48, 55], fun _ => .stop, [Lsl17DrawBytes_5]⟩
noncomputable def Fsl17DrawBytes : List S → Option Res := veil Qsl17DrawBytes.run
noncomputable def Ssl17DrawBytes : Spec := ⟨[.ro], false, Fsl17DrawBytes⟩
theorem msl17DrawBytes (x1 : Option Bool) (x2 : List (List C)) : Fsl17DrawBytes [.one (.sl false x1 1 x2)] = cOV [.cur 1] false [.other] (Fsl01New [.one (.sl false x1 1 x2)]) fun c1 => cuK 1 c1 fun o1 l1 n1 n2 => cV false [.int .i64] (Fsl01Size [.one (.sl false x1 1 x2), .one (.int 60)]) fun n3 => cOV [.cub 1] false [.int .i64] (Fsl01Below [.one (.bx [.sl false o1 1 l1, .int n1, .int n2]), .one (.int n3)]) fun o2 l2 n4 n5 n6 => cOV [.cub 1] false [.sl 3] (Fsl17DrawOps [.one (.bx [.sl false o2 1 l2, .int n4, .int n5]), .one (.int n6)]) fun o3 l3 n7 n8 o4 l4 => iterC (Rsl17DrawBytes_5 (fun y1 y2 y3 y4 y5 y6 y7 y8 => cOV [.cub 1] false [.int .i64] (Fsl01Below [.one (.bx [.sl false y1 1 y2, .int y3, .int y4]), .one (.int (W ((y6.length : Int) + 1)))]) fun o5 l5 n9 n10 n11 => if 0 ≤ (0 : Int) ∧ (0 : Int) ≤ n11 ∧ n11 ≤ (y6.length : Int) then cT [(false, [.sl 1]), (false, [.bool])] (FsPackOps [.one (.sl false (cutNl y5) 3 (List.drop 0 (List.take (Int.toNat n11) (freezeRows y6))))]) fun o6 l6 b1 => if 0 ≤ n11 ∧ n11 ≤ ((y6.length : Nat) : Int) ∧ ((y6.length : Nat) : Int) ≤ (y6.length : Int) then cT [(false, [.sl 1]), (false, [.bool])] (FsPackOps [.one (.sl false (cutNl y5) 3 (List.drop (Int.toNat n11) (List.take (Int.toNat (y6.length : Int)) (freezeRows y6))))]) fun o7 l7 b2 => (let q1 : (Option Bool) → (List (List C)) → Int → Int → (Option Bool) → (List (List C)) → Option Res := fun z1 z2 z3 z4 z5 z6 => cOV [.cub 1] false [.bool] (Fsl01Once [.one (.bx [.sl false z1 1 z2, .int z3, .int z4]), .one (.int 3)]) fun o8 l8 n12 n13 b3 => bif b3 then bif decide ((z6.length : Int) > 0) then cOV [.cub 1] false [.int .i64] (Fsl01Below [.one (.bx [.sl false o8 1 l8, .int n12, .int n13]), .one (.int 3)]) fun o9 l9 n14 n15 n16 => bif n16 == 0 then cOV [.cub 1] false [.int .i64] (Fsl01Below [.one (.bx [.sl false o9 1 l9, .int n14, .int n15]), .one (.int (z6.length : Int))]) fun o10 l10 n17 n18 n19 => if 0 ≤ (0 : Int) ∧ (0 : Int) ≤ n19 ∧ n19 ≤ (z6.length : Int) then fr false 1 [.one (.sl true (cutNl z5) 1 (List.drop 0 (List.take (Int.toNat n19) z6)))] else none else bif n16 == 1 then cOV [.cub 1] false [.int .i64] (Fsl01Below [.one (.bx [.sl false o9 1 l9, .int n14, .int n15]), .one (.int (z6.length : Int))]) fun o11 l11 n20 n21 n22 => cOV [.cub 1] false [.int .i64] (Fsl01Below [.one (.bx [.sl false o11 1 l11, .int n20, .int n21]), .one (.int 256)]) fun o12 l12 n23 n24 n25 => ix n22 z6 (oc (.int .u8) z6 (Int.toNat n22) 0 ((let e1 : List (List C) := md z6 (Int.toNat n22) 0 (.v (.int .u8 (B8 (n25)))); fr false 1 [.one (.sl true z5 1 e1)]))) else bif n16 == 2 then cOV [.cub 1] false [.int .i64] (Fsl01Below [.one (.bx [.sl false o9 1 l9, .int n14, .int n15]), .one (.int 6)]) fun o13 l13 n26 n27 n28 => cOV [.cub 1] false [.sl 1] (Fsl01DrawBytes [.one (.bx [.sl false o13 1 l13, .int n26, .int n27]), .one (.int (W (1 + n28)))]) fun o14 l14 n29 n30 o15 l15 => cV false [.sl 1] (Fsl01Join [.one (.sl false z5 1 (freezeRows z6)), .one (.sl false o15 1 (freezeRows l15))]) fun o16 l16 => fr false 1 [.one (.sl true o16 1 l16)] else fr false 1 [.one (.sl true z5 1 z6)] else fr false 1 [.one (.sl true z5 1 z6)] else fr false 1 [.one (.sl true z5 1 z6)]; cOV [.cub 1] false [.bool] (Fsl01Once [.one (.bx [.sl false o5 1 l5, .int n9, .int n10]), .one (.int 3)]) fun o17 l17 n31 n32 b4 => bif b4 then cV false [.sl 1] (Fsl01Join [.one (.sl false o6 1 (freezeRows l6)), .one (.sl false o7 1 (freezeRows l7))]) fun o18 l18 => q1 o17 l17 n31 n32 o18 l18 else q1 o17 l17 n31 n32 o6 l6) else none else none)) FUEL 0 o3 l3 n7 n8 (some false) [] o4 l4 := Fx.eq (by kernel_rfl)
theorem stsl17DrawBytes_5 : Lsl17DrawBytes_5.Step Qsl17DrawBytes.E Qsl17DrawBytes.dr Qsl17DrawBytes.lp ((findLoop 5 Qsl17DrawBytes.code).getD .skip) := fun k nx v => by kernel_rfl
theorem oksl17DrawBytes : CalleeOk Go.Proofs.Try.prog 87 Ssl17DrawBytes := Fx.ok (F := Qsl17DrawBytes) follows (envTy_mk tys_y5_eq).winS (envSpec_of (specsOk_cons oksl01Once (specsOk_cons oksl01Below (specsOk_cons oksl17DrawOps (specsOk_cons oksl01DrawBytes (specsOk_cons oksPackOps (specsOk_cons oksOpOk (specsOk_cons oksl01Join (specsOk_cons oksl01New (specsOk_cons oksl01Size specsOk_nil)))))))))).winS Go.Proofs.Try.func87 (by kernel_rfl) (by kernel_rfl) (by
  rw [show subs Qsl17DrawBytes.code = [(findLoop 5 Qsl17DrawBytes.code).getD .skip] by kernel_rfl]
  exact ⟨stepAt_some (by kernel_rfl) stsl17DrawBytes_5, trivial⟩) (by kernel_rfl) (by kernel_rfl) rfl
theorem lpGood (l : List OpR) (hl : l.length ≤ 100000) (Q : Res → Prop) (K) (c : Cu) (hK : ∀ g : List OpR, g.length ≤ l.length → Ok (K c.o (c.bs.map encB) c.i c.h (some false) (g.map encOp) (some false) (l.map encOp)) Q) :
    Ok (iterC (Rsl17DrawBytes_5 K) FUEL 0 c.o (c.bs.map encB) c.i c.h (some false) [] (some false) (l.map encOp)) Q := by
  refine iter_ok (h := hsl17DrawBytes_5) l.length (fun i (g : List OpR) f => f (i : Int) c.o (c.bs.map encB) c.i c.h (some false) (g.map encOp) (some false) (l.map encOp)) (fun i g => g.length ≤ i) Q (by omega) ?_ ?_ [] (by simp)
  · intro nx g hg
    exact ok_of (by simp [Rsl17DrawBytes_5]) (hK g hg)
  · intro nx i g hi hg hW hnx
    have hL : (g.length + 1) * 24 ≤ LIM := by unfold LIM; omega
    have f1 := FsOpOk_at l[i]
    cases hok : opOk l[i] with
    | true =>
      rw [hok] at f1
      exact ok_of (by simp [Rsl17DrawBytes_5, hi, f1, hL, hW]) (hnx (g ++ [l[i]]) (by simp; omega))
    | false =>
      rw [hok] at f1
      exact ok_of (by simp [Rsl17DrawBytes_5, hi, f1, hW]) (hnx g (by omega))
theorem dDrawBytes (o : Option Bool) (bs : List Int) (h : bs.length ≤ 1099511627776) : ∃ nl r, Fsl17DrawBytes [.one (.sl false o 1 (bs.map encB))] = some (.one (.sl true nl 1 (r.map encB)), [.one .unk]) ∧ bOk r ∧ r.length ≤ 8100 := by
  have key : Ok (Fsl17DrawBytes [.one (.sl false o 1 (bs.map encB))]) (fun z => ∃ nl r, z = (.one (.sl true nl 1 (r.map encB)), [.one .unk]) ∧ bOk r ∧ r.length ≤ 8100) := by
    rw [msl17DrawBytes]
    obtain ⟨c0, e0, hc0⟩ := dNew o bs h
    obtain ⟨n, e1, hn2, hn60⟩ := dSize o bs 60 h (by omega)
    refine ok_of (by simp -zeta -zetaHave [e0, e1]; rfl) ?_
    refine ok_below hc0 fun m c1 hc1 hm0 hm1 => ?_
    have hm1 := hm1 (by omega)
    obtain ⟨m, rfl⟩ := Int.eq_ofNat_of_zero_le hm0
    obtain ⟨l, c2, e2, hc2, hll⟩ := dOps c1 m hc1 (by omega)
    refine ok_of (by simp -zeta -zetaHave [e2]; rfl) ?_
    refine lpGood l (by omega) _ _ c2 fun g hg => ?_
    have w1 : W ((g.length : Int) + 1) = (g.length : Int) + 1 := W_eq (by omega) (by omega)
    simp -zeta -zetaHave only [List.length_map, w1]
    refine ok_below hc2 fun k c3 hc3 hk0 hk1 => ?_
    have hk1 := hk1 (by omega)
    obtain ⟨k, rfl⟩ := Int.eq_ofNat_of_zero_le hk0
    have hkg : k ≤ g.length := by omega
    have hT : (g.map encOp).take g.length = g.map encOp := List.take_of_length_le (by simp)
    have p1 := FsPackOps_at (some false) (g.take k) (by simp; omega)
    have p2 := FsPackOps_at (some false) (g.drop k) (by simp; omega)
    rw [List.map_take] at p1
    rw [List.map_drop] at p2
    have hres : ∀ P, (∀ r, P = some r → bOk r ∧ r.length ≤ 4000) → ∃ nl b r, packRes P = S.tup [S.one (C.sl true nl 1 (r.map encB)), S.one (C.bool b)] ∧ bOk r ∧ r.length ≤ 4000 := by
      intro P hP
      cases P with
      | none => exact ⟨_, _, [], rfl, (fun x hx => absurd hx (by simp)), by simp⟩
      | some r => exact ⟨_, _, r, rfl, hP r rfl⟩
    have hnil : bOk [] := fun x hx => absurd hx List.not_mem_nil
    obtain ⟨nl1, b1, r1, q1, hb1, hl1⟩ := hres (packS (((g.take k).length + 15) / 16) (g.take k) []) (fun r h => packS_ok h hnil (Nat.zero_le _))
    obtain ⟨nl2, b2, r2, q2, hb2, hl2⟩ := hres (packS (((g.drop k).length + 15) / 16) (g.drop k) []) (fun r h => packS_ok h hnil (Nat.zero_le _))
    rw [q1] at p1
    rw [q2] at p2
    have f3 := Fsl01Join_at nl1 r1 nl2 r2 ⟨by omega, by omega⟩
    simp -zeta -zetaHave only [encOp_freeze, encB_freeze, List.drop_zero, Int.toNat_natCast, hkg, hT, p1, p2, cT_some, tTup, tParts, S.parts, tOne, cells?_one, Option.bind_some, List.length_cons, List.length_nil, if_true, tRes, List.head?_cons, List.tail_cons, asBool_bool, asOwn_sl, id, cutNl, Int.natCast_nonneg, Int.ofNat_le, true_and, and_true, Nat.le_refl, Int.le_refl]
    extract_lets -underBinder v1
    have hv : ∀ (c : Cu) (nl : Option Bool) (r : List Int), cuOk c → bOk r → r.length ≤ 8000 → Ok (v1 c.o (c.bs.map encB) c.i c.h nl (r.map encB)) (fun z => ∃ nl r, z = (.one (.sl true nl 1 (r.map encB)), [.one .unk]) ∧ bOk r ∧ r.length ≤ 8100) := by
      intro c nl r hc hb hl
      have hdone : Ok (if rowsFree (r.map encB) = true then some (S.one (C.sl true nl 1 (r.map encB)), [S.one C.unk]) else none) (fun z => ∃ nl r, z = (.one (.sl true nl 1 (r.map encB)), [.one .unk]) ∧ bOk r ∧ r.length ≤ 8100) := ok_eq (r := (.one (.sl true nl 1 (r.map encB)), [.one .unk])) (by simp) ⟨nl, r, rfl, hb, by omega⟩
      simp -zeta -zetaHave only [v1]
      refine ok_once hc fun b c1 hc1 => ?_
      cases b with
      | false => exact hdone
      | true =>
        by_cases h0 : 0 < r.length
        · simp -zeta -zetaHave only [List.length_map, h0, decide_true, cond_true]
          refine ok_below hc1 fun m c2 hc2 _ _ => ?_
          cases m == 0 with
          | true =>
            refine ok_below hc2 fun j c3 hc3 hj0 hj1 => ?_
            have hj1 := hj1 (by simp; omega)
            obtain ⟨j, rfl⟩ := Int.eq_ofNat_of_zero_le hj0
            have hjl : j ≤ r.length := by omega
            refine ok_eq (r := (.one (.sl true (cutNl nl) 1 ((r.take j).map encB)), [.one .unk])) ?_ ⟨_, r.take j, rfl, bOk_take hb _, by simp; omega⟩
            have := encB_free (r.take j)
            rw [List.map_take] at this
            simp [hjl, this, cutNl]
          | false =>
            cases m == 1 with
            | true =>
              refine ok_below hc2 fun j c3 hc3 hj0 hj1 => ok_below hc3 fun y c4 hc4 _ _ => ?_
              have hj1 := hj1 (by simp; omega)
              obtain ⟨j, rfl⟩ := Int.eq_ofNat_of_zero_le hj0
              have hjl : j < r.length := by omega
              have hm : md (r.map encB) j 0 (.v (.int .u8 (B8 y))) = (r.set j (B8 y)).map encB := md_map hjl rfl
              have hy := B8_range y
              refine ok_eq (r := (.one (.sl true nl 1 ((r.set j (B8 y)).map encB)), [.one .unk])) ?_ ⟨_, r.set j (B8 y), rfl, fun x hx => ?_, by simp; omega⟩
              · simp [-List.map_set, hjl, hm]
              · rcases List.mem_or_eq_of_mem_set hx with hx | rfl
                · exact hb x hx
                · exact hy
            | false =>
              cases m == 2 with
              | true =>
                refine ok_below hc2 fun y c3 hc3 hy0 hy1 => ?_
                have hy1 := hy1 (by omega)
                obtain ⟨y, rfl⟩ := Int.eq_ofNat_of_zero_le hy0
                have w : W (1 + (y : Int)) = ((1 + y : Nat) : Int) := by rw [W_eq (by omega) (by omega)]; omega
                obtain ⟨t, c4, e4, hc4, hbt, hlt⟩ := dBytes c3 (1 + y) hc3 (by omega)
                have f4 := Fsl01Join_at nl r (some false) t ⟨by omega, by omega⟩
                refine ok_eq (r := (.one (.sl true (some false) 1 ((r ++ t).map encB)), [.one .unk])) ?_ ⟨_, r ++ t, rfl, bOk_app hb hbt, by simp; omega⟩
                have := encB_free (r ++ t)
                rw [List.map_append] at this f4
                simp [-Int.natCast_add, w, e4, f4, this]
              | false => exact hdone
        · simp -zeta -zetaHave only [List.length_map, h0, decide_false, cond_false]
          exact hdone
    clear_value v1
    refine ok_once hc3 fun b c4 hc4 => ?_
    cases b with
    | false => exact hv c4 _ r1 hc4 hb1 (by omega)
    | true =>
      refine ok_of ?_ (hv c4 (some false) (r1 ++ r2) hc4 (bOk_app hb1 hb2) (by simp; omega))
      simp [-List.map_append, f3]
  obtain ⟨z, h1, nl, r, rfl, h2⟩ := key
  exact ⟨nl, r, h1, h2⟩
/-! sDrawScanOps: loop.example/g00712/spec.DrawScanOps -/
noncomputable def QsDrawScanOps : Fx := ⟨Go.Proofs.Try.f37, [.ro], false, mkEnv tys_y5 [(87, Ssl17DrawBytes)] [], fun _ => .stop, []⟩
noncomputable def FsDrawScanOps : List S → Option Res := veil QsDrawScanOps.run
noncomputable def SsDrawScanOps : Spec := ⟨[.ro], false, FsDrawScanOps⟩
theorem msDrawScanOps (x1 : Option Bool) (x2 : List (List C)) : FsDrawScanOps [.one (.sl false x1 1 x2)] = cV false [.sl 1] (Fsl17DrawBytes [.one (.sl false x1 1 x2)]) fun o1 l1 => fr false 1 [.one (.sl true o1 1 l1)] := Fx.eq (by kernel_rfl)
theorem oksDrawScanOps : CalleeOk Go.Proofs.Try.prog 37 SsDrawScanOps := Fx.ok (F := QsDrawScanOps) follows (envTy_mk tys_y5_eq) (envSpec_of (specsOk_cons oksl17DrawBytes specsOk_nil)) Go.Proofs.Try.func37 (by kernel_rfl) (by kernel_rfl) (by rw [show subs QsDrawScanOps.code = [] by kernel_rfl]; trivial) (by kernel_rfl) (by kernel_rfl) rfl
theorem dScan (o : Option Bool) (bs : List Int) (h : bs.length ≤ 1099511627776) : ∃ nl r, FsDrawScanOps [.one (.sl false o 1 (bs.map encB))] = some (.one (.sl true nl 1 (r.map encB)), [.one .unk]) ∧ bOk r ∧ r.length ≤ 8100 := by
  obtain ⟨nl, r, e, h1⟩ := dDrawBytes o bs h
  exact ⟨nl, r, by rw [msDrawScanOps, e]; simp, h1⟩
/-! wsameOps: loop.example/g00712/laws.sameOps -/
@[reducible] def hwsameOps_4 : Sh := ⟨[.one (.o (.sl false 3)), .one (.o (.sl false 3)), .one (.o (.i .i64))], []⟩
@[reducible] def xwsameOps_4 : List (Ex × Sh) := [(.ret, ⟨[.one (.o .b)], []⟩), (.exit 0, ⟨[.one (.o .u)], []⟩)]
noncomputable def RwsameOps_4 : KC xwsameOps_4 (hwsameOps_4.K → hwsameOps_4.K) := fun k0 k1 nx v1 v2 v3 v4 v5 => bif decide (v5 < (v2.length : Int)) then ix v5 v2 ((v2[Int.toNat v5]?).bind fun w1 => tRo [.int .i64, .int .i64, .int .i64] w1 fun n1 n2 n3 => ix v5 v4 ((v4[Int.toNat v5]?).bind fun w2 => tRo [.int .i64, .int .i64, .int .i64] w2 fun n4 n5 n6 => bif !(n1 == n4 && (n2 == n5 && (n3 == n6 && true))) then k0 false else nx v1 v2 v3 v4 (W (v5 + 1)))) else k1
noncomputable def LwsameOps_4 : Lp := ⟨4, [0, 1, 5], [4], 0, 26, hwsameOps_4, xwsameOps_4, RwsameOps_4⟩
noncomputable def QwsameOps : Fx := ⟨Go.Proofs.Try.f33, [.ro, .ro], false, mkEnv tys_y5 [] [], fun id => bif Nat.beq id 6 then .sq [0, 1, 2, 3, 4, 5, 6, 7, 8] .stop else .stop, [LwsameOps_4]⟩
noncomputable def FwsameOps : List S → Option Res := veil QwsameOps.run
noncomputable def SwsameOps : Spec := ⟨[.ro, .ro], false, FwsameOps⟩
theorem mwsameOps (x1 : Option Bool) (x2 : List (List C)) (x3 : Option Bool) (x4 : List (List C)) : FwsameOps [.one (.sl false x1 3 x2), .one (.sl false x3 3 x4)] = bif (x2.length : Int) != (x4.length : Int) then fr false 2 [.one (.bool false)] else iterC (RwsameOps_4 (fun y1 => fr false 2 [.one (.bool y1)]) (fr false 2 [.one (.bool true)])) FUEL x1 x2 x3 x4 0 := Fx.eq (by kernel_rfl)
theorem stwsameOps_4 : LwsameOps_4.Step QwsameOps.E QwsameOps.dr QwsameOps.lp ((findLoop 4 QwsameOps.code).getD .skip) := fun k nx v => by kernel_rfl
theorem okwsameOps : CalleeOk Go.Proofs.Try.prog 33 SwsameOps := Fx.ok (F := QwsameOps) follows (envTy_mk tys_y5_eq) (envSpec_of (specsOk_nil)) Go.Proofs.Try.func33 (by kernel_rfl) (by kernel_rfl) (by
  rw [show subs QwsameOps.code = [(findLoop 4 QwsameOps.code).getD .skip] by kernel_rfl]
  exact ⟨stepAt_some (by kernel_rfl) stwsameOps_4, trivial⟩) (by kernel_rfl) (by kernel_rfl) rfl
theorem FwsameOps_at (nl : Option Bool) (a : List OpR) (nl' : Option Bool) (b : List OpR) (h : a.length < 4611686018427387903) : FwsameOps [S.one (C.sl false nl 3 (a.map encOp)), S.one (C.sl false nl' 3 (b.map encOp))] = some (S.one (C.bool (decide (a = b))), [S.one C.unk, S.one C.unk]) := by
  rw [mwsameOps]
  by_cases hl : a.length = b.length
  · have e1 : (((a.map encOp).length : Int) != ((b.map encOp).length : Int)) = false := by simp [hl]
    rw [e1, cond_false]
    refine (iter_eq (h := hwsameOps_4) a b (fun i f => f nl (a.map encOp) nl' (b.map encOp) (i : Int)) (fr false 2 [.one (.bool true)]) (fr false 2 [.one (.bool false)]) (by omega) hl ?_ ?_).trans ?_
    · intro nx; simp [RwsameOps_4]
    · intro nx i hi hi' hW
      have e' : (a[i].k == b[i].k && (a[i].t == b[i].t && (a[i].x == b[i].x && true))) = decide (a[i] = b[i]) := by
        rw [Bool.eq_iff_iff]
        cases ha : a[i]; cases hb : b[i]
        simp
      by_cases e : a[i] = b[i]
      · simp [RwsameOps_4, hi, hi', hW, e]
      · rw [decide_eq_false e] at e'
        have e2 : (!(a[i].k == b[i].k) || (!(a[i].t == b[i].t) || !(a[i].x == b[i].x))) = true := by
          revert e'
          cases (a[i].k == b[i].k) <;> cases (a[i].t == b[i].t) <;> cases (a[i].x == b[i].x) <;> simp
        simp [RwsameOps_4, hi, hi', hW, e2, e]
    · by_cases e : a = b <;> simp [e]
  · have e1 : (((a.map encOp).length : Int) != ((b.map encOp).length : Int)) = true := by simp; omega
    have e2 : ¬ a = b := fun e => hl (by rw [e])
    rw [e1]; simp [e2]
end Go.Proofs.Gh.Gm
set_option linter.unusedVariables false
set_option linter.unusedSimpArgs false
set_option maxRecDepth 100000
set_option maxHeartbeats 2000000
namespace Go.Proofs.Gh.Gm
def tys_y6 : List (Nat × TI) := [(3, ⟨false, 8, [.int .i64], [.int 0], .scalar, false, none⟩),
  (4, ⟨false, 1, [.bool], [.bool false], .scalar, false, none⟩),
  (5, ⟨false, 1, [.int .u8], [.v (.int .u8 0)], .scalar, false, none⟩),
  (38, ⟨false, 24, [.sl 1], [.sl true (some true) 1 []], .slice 5, false, none⟩),
  (40, ⟨false, 24, [.sl 3], [.sl true (some true) 3 []], .slice 104, false, none⟩),
  (49, ⟨false, 0, [], [], .tuple [40, 3, 3], false, none⟩)]
theorem tys_y6_eq : tys_y6.map (fun x => tiOf Go.Proofs.Try.prog x.1 x.2.cks) = tys_y6.map fun x => some x.2 := by kernel_rfl
theorem unOp_bytes {b : List Int} (hb : bOk b) {a : Nat} {r : OpR × Nat} (h : unOp b a = some r) : b.take r.2 = b.take a ++ opBytes r.1 := by
  unfold unOp rawOp at h
  split at h
  · rename_i ha
    have hr := bOk_get hb ha
    have g : b.getD a 0 = b[a] := by simp [List.getD, ha]
    rw [g] at h
    have h5' : 5 * (b[a] / 5) + b[a] % 5 = b[a] := by omega
    cases h5 : inB (b[a] / 5) 1 3 <;> simp only [h5, cond_true, cond_false] at h
    · simp only [Option.bind_some] at h
      cases h6 : opOk ⟨b[a] / 5, b[a] % 5, 0⟩ <;> simp only [h6, cond_true, cond_false] at h
      · cases h
      · cases h
        simp only [opBytes, h5, cond_false, h5']
        rw [List.take_succ_eq_append_getElem ha]
    · split at h
      · rename_i ha1
        have g1 : b.getD (a + 1) 0 = b[a + 1] := by simp [List.getD, ha1]
        rw [g1] at h
        simp only [Option.bind_some] at h
        cases h6 : opOk ⟨b[a] / 5, b[a] % 5, b[a + 1]⟩ <;> simp only [h6, cond_true, cond_false] at h
        · cases h
        · cases h
          simp only [opBytes, h5, cond_true, h5']
          rw [List.take_succ_eq_append_getElem ha1, List.take_succ_eq_append_getElem ha]
          simp only [List.append_assoc, List.cons_append, List.nil_append]
      · cases h
  · cases h
theorem parse_bytes {b : List Int} (hb : bOk b) {n a : Nat} {r : List OpR × Nat} (h : parseN b n a = some r) : b.take r.2 = b.take a ++ r.1.flatMap opBytes := by
  induction n generalizing a r with
  | zero => cases h; simp
  | succ n ih =>
    rw [parseN] at h
    split at h
    · cases h
    · rename_i o a' hu
      have hu := unOp_bytes hb hu
      split at h
      · cases h
      · rename_i l e hp
        have := ih hp
        cases h
        simp only at this hu ⊢
        rw [this, hu, List.flatMap_cons, List.append_assoc]
theorem block_bytes {b : List Int} (hb : bOk b) {l : List OpR} {k : Nat} (h : blockB b = some (l, k)) :
    ∃ n m : Nat, b.getD 0 0 = (n : Int) ∧ b.getD 1 0 = (m : Int) ∧ l.length = n ∧ k = m + 4 ∧ m + 4 ≤ b.length ∧ b.take (2 + m) = b.take 2 ++ l.flatMap opBytes ∧
      sumB (b.take (2 + m)) = 256 * b.getD (2 + m) 0 + b.getD (3 + m) 0 := by
  unfold blockB at h
  split at h
  · cases h
  · rename_i hn
    have h2 : 2 ≤ b.length := by omega
    have r0 := bOk_get hb (show 0 < b.length by omega)
    have r1 := bOk_get hb (show 1 < b.length by omega)
    have g0 : b.getD 0 0 = b[0] := by simp [List.getD, show 0 < b.length by omega]
    have g1 : b.getD 1 0 = b[1] := by simp [List.getD, show 1 < b.length by omega]
    rw [← g0] at r0
    rw [← g1] at r1
    obtain ⟨n, hn0⟩ := Int.eq_ofNat_of_zero_le r0.1
    obtain ⟨m, hm⟩ := Int.eq_ofNat_of_zero_le r1.1
    rw [hn0, hm] at hn h
    simp only [Int.toNat_natCast] at hn h
    split at h
    · cases h
    · rename_i l' e hp
      split at h
      · rename_i he
        obtain ⟨rfl, hs⟩ := he
        cases h
        have hle := parseN_le hp
        have hby := parse_bytes (bOk_take hb _) hp
        simp only [List.take_take] at hby hle
        refine ⟨n, m, hn0, hm, hle.1, by omega, by omega, ?_, ?_⟩
        · rw [show min (2 + m) (2 + m) = 2 + m by omega, show min 2 (2 + m) = 2 by omega] at hby
          exact hby
        · rw [hs, show 2 + m + 1 = 3 + m by omega]
      · cases h
theorem flat_nil {c : List OpR} (h : (c.flatMap opBytes).length = 0) : c = [] := by
  cases c with
  | nil => rfl
  | cons o c => have := opBytes_len o; simp only [List.flatMap_cons, List.length_append] at h; omega
theorem same_pre {l r l' r' : List OpR} (h : l ++ r = l' ++ r') (hf : (l.flatMap opBytes).length = (l'.flatMap opBytes).length) : l = l' := by
  rcases List.append_eq_append_iff.1 h with ⟨a, h1, _⟩ | ⟨a, h1, _⟩
  · subst h1
    rw [List.flatMap_append, List.length_append] at hf
    rw [flat_nil (c := a) (by omega), List.append_nil]
  · subst h1
    rw [List.flatMap_append, List.length_append] at hf
    rw [flat_nil (c := a) (by omega), List.append_nil]
theorem getD_set {b : List Int} {k : Nat} {y : Int} (hk : k < b.length) (j : Nat) : (b.set k y).getD j 0 = if j = k then y else b.getD j 0 := by
  by_cases e : j = k
  · subst e; simp [List.getD, hk]
  · rw [if_neg e]; simp [List.getD, List.getElem?_set, Ne.symm e]
theorem bent_law {b : List Int} (hb : bOk b) {k : Nat} {y : Int} (hy : 0 ≤ y ∧ y ≤ 255) {l r l' r' : List OpR} {kb kc : Nat} (h1 : blockB b = some (l, kb)) (hk : k < kb) (hne : y ≠ b.getD k 0) (h2 : blockB (b.set k y) = some (l', kc)) (hp : l ++ r = l' ++ r') : False := by
  have hbc : bOk (b.set k y) := fun x hx => by
    rcases List.mem_or_eq_of_mem_set hx with hx | rfl
    · exact hb x hx
    · exact hy
  obtain ⟨n, m, a1, a2, a3, a4, a5, a6, a7⟩ := block_bytes hb h1
  obtain ⟨n', m', c1, c2, c3, c4, c5, c6, c7⟩ := block_bytes hbc h2
  have hkl : k < b.length := by omega
  rw [getD_set hkl] at c1 c2
  have hf : (l.flatMap opBytes).length = m := by
    have := congrArg List.length a6
    simp only [List.length_append, List.length_take] at this
    omega
  have hf' : (l'.flatMap opBytes).length = m' := by
    have := congrArg List.length c6
    simp only [List.length_append, List.length_take, List.length_set] at this c5
    omega
  by_cases k0 : k = 0
  · subst k0
    rw [if_pos rfl] at c1
    rw [if_neg (by omega)] at c2
    have : l = l' := same_pre hp (by omega)
    subst this
    exact hne (by omega)
  · rw [if_neg (by omega)] at c1
    have hll : l = l' := List.append_inj_left hp (by omega)
    subst hll
    by_cases k1 : k = 1
    · subst k1
      rw [if_pos rfl] at c2
      exact hne (by omega)
    · rw [if_neg (by omega)] at c2
      have hmm : m' = m := by omega
      subst hmm
      have ht : (b.set k y).take 2 = b.take 2 := by
        rw [List.take_set_of_le (by omega)]
      have he : (b.set k y).take (2 + m') = b.take (2 + m') := by rw [c6, a6, ht]
      by_cases k2 : k < 2 + m'
      · have e1 : ((b.set k y).take (2 + m'))[k]? = some y := by rw [List.getElem?_take, if_pos k2]; simp [hkl]
        have e2 : (b.take (2 + m'))[k]? = some (b.getD k 0) := by rw [List.getElem?_take, if_pos k2]; simp [List.getD, hkl]
        rw [he, e2] at e1
        exact hne (by simpa using e1.symm)
      · rw [he, a7, getD_set hkl, getD_set hkl] at c7
        have hx1 := bOk_get hb (show 2 + m' < b.length by omega)
        have hx2 := bOk_get hb (show 3 + m' < b.length by omega)
        have q1 : b.getD (2 + m') 0 = b[2 + m'] := by simp [List.getD, show 2 + m' < b.length by omega]
        have q2 : b.getD (3 + m') 0 = b[3 + m'] := by simp [List.getD, show 3 + m' < b.length by omega]
        have hk' : k = 2 + m' ∨ k = 3 + m' := by omega
        rcases hk' with rfl | rfl
        · rw [if_pos rfl, if_neg (by omega)] at c7
          exact hne (by omega)
        · rw [if_neg (by omega), if_pos rfl] at c7
          exact hne (by omega)
theorem scanF_length (f : Nat) (b : List Int) : (scanF f b).1.length ≤ 16 * f := by
  induction f generalizing b with
  | zero => simp [scanF]
  | succ f ih =>
    cases hb : blockB b with
    | none => rw [scanF_none hb]; simp
    | some z =>
      obtain ⟨l, k⟩ := z
      have := blockB_le hb
      simp only at this
      have h2 := ih (b.drop k)
      rw [scanF_some hb, List.length_append]
      omega
theorem scan_length (b : List Int) : (scan b).1.length ≤ 16 * b.length := scanF_length _ _
theorem scan_some {b : List Int} (h : (scan b).1 ≠ []) : ∃ l k r, blockB b = some (l, k) ∧ (scan b).1 = l ++ r := by
  cases hb : blockB b with
  | none => unfold scan at h; rw [scanF_none hb] at h; exact absurd rfl h
  | some z =>
    obtain ⟨l, k⟩ := z
    have := blockB_le hb
    refine ⟨l, k, (scanF (b.length - 1) (b.drop k)).1, rfl, ?_⟩
    simp only at this
    obtain ⟨f, hf⟩ : ∃ f, b.length = f + 1 := ⟨b.length - 1, by omega⟩
    unfold scan
    rw [hf, scanF_some hb, Nat.add_sub_cancel]
theorem bent_scan {b : List Int} (hb : bOk b) {k : Nat} {y : Int} (hy : 0 ≤ y ∧ y ≤ 255) {l : List OpR} {kb : Nat} (h1 : blockB b = some (l, kb)) (hk : k < kb) (hne : y ≠ b.getD k 0) (h2 : (scan (b.set k y)).1 ≠ []) : (scan (b.set k y)).1 ≠ (scan b).1 := by
  intro he
  obtain ⟨l', k', r', e1, e2⟩ := scan_some h2
  obtain ⟨l2, k2, r, e3, e4⟩ := scan_some (b := b) (by rw [← he]; exact h2)
  rw [h1] at e3
  cases e3
  rw [e2, e4] at he
  exact bent_law hb hy h1 hk hne e1 he.symm
theorem xor_ne {n z : Int} (hn : 0 ≤ n ∧ n ≤ 255) (hz : 1 ≤ z ∧ z ≤ 255) : B8 (((BitVec.ofInt (IntKind.bits .u8) n ^^^ BitVec.ofInt (IntKind.bits .u8) z).toNat : Int)) ≠ n := by
  have hbits : IntKind.bits .u8 = 8 := rfl
  rw [hbits]
  have hlt := (BitVec.ofInt 8 n ^^^ BitVec.ofInt 8 z).isLt
  rw [B8_eq (by omega) (by omega)]
  intro h
  have hn' : (BitVec.ofInt 8 n).toNat = n.toNat := by rw [BitVec.toNat_ofInt]; omega
  have hz' : (BitVec.ofInt 8 z).toNat = z.toNat := by rw [BitVec.toNat_ofInt]; omega
  have e : BitVec.ofInt 8 n ^^^ BitVec.ofInt 8 z = BitVec.ofInt 8 n := BitVec.eq_of_toNat_eq (by omega)
  have e2 : BitVec.ofInt 8 z = 0#8 := by
    have := congrArg (fun x => BitVec.ofInt 8 n ^^^ x) e
    simp only [← BitVec.xor_assoc, BitVec.xor_self, BitVec.zero_xor] at this
    exact this
  rw [e2] at hz'
  simp at hz'
  omega
theorem dAt0 (o : Option Bool) (bs : List Int) (hb : bOk bs) (i : Nat) (h : bs.length ≤ 1048576) (hi : i ≤ 1048576) : ∃ v, Fwat [.one (.sl false o 1 (bs.map encB)), .one (.int i)] = some (.one (.int v), [.one .unk, .one .unk]) ∧ 0 ≤ v := by
  have hm := mwat o (bs.map encB) i
  by_cases hk : i < bs.length
  · have hr := bOk_get hb hk
    exact ⟨W bs[i], hm.trans (by simp [hk, C.asInt]), by rw [W_eq (by omega) (by omega)]; omega⟩
  · have h1 : ¬ (i : Int) < (bs.length : Int) := by omega
    have w1 : W ((i : Int) * 13) = (i : Int) * 13 := W_eq (by omega) (by omega)
    have w2 : W ((bs.length : Int) * 5) = (bs.length : Int) * 5 := W_eq (by omega) (by omega)
    have w3 : W ((i : Int) * 13 + (bs.length : Int) * 5) = (i : Int) * 13 + (bs.length : Int) * 5 := W_eq (by omega) (by omega)
    exact ⟨Int.tmod ((i : Int) * 13 + (bs.length : Int) * 5) 256, hm.trans (by simp [h1, w1, w2, w3]), Int.tmod_nonneg _ (by omega)⟩
/-! wFnBent: loop.example/g00712/laws.FnBent -/
@[reducible] def hwFnBent_12 : Sh := ⟨[.one (.o (.sl false 1)), .one (.o (.al 4 0 [])), .one (.o (.al 5 0 [])), .one (.o (.al 6 0 [])), .one (.o (.i .i64))], [(true, [.o .u]), (true, [.o .u]), (true, [.o .u]), (true, [.o .u]), (true, [.o (.sl true 1)]), (true, [.o (.sl true 3)]), (true, [.o (.sl true 1)])]⟩
@[reducible] def xwFnBent_12 : List (Ex × Sh) := [(.exit 0, ⟨[.one (.o (.sl false 1)), .one (.o (.al 4 0 [])), .one (.o (.al 5 0 [])), .one (.o (.al 6 0 []))], [(true, [.o .u]), (true, [.o .u]), (true, [.o .u]), (true, [.o .u]), (true, [.o (.sl true 1)]), (true, [.o (.sl true 3)]), (true, [.o (.sl true 1)])]⟩)]
noncomputable def RwFnBent_12 : KC xwFnBent_12 (hwFnBent_12.K → hwFnBent_12.K) := fun k0 nx v1 v2 v3 v4 v5 v6 v7 v8 v9 => bif decide (v3 < (v5.length : Int)) then ix v3 v5 ((v5[Int.toNat v3]?).bind fun w1 => tOwn [.int .u8] w1 fun n5 => if (v9.length + 1) * 1 ≤ LIM then nx v1 v2 (W (v3 + 1)) v4 v5 v6 v7 (apNl v8 [[]]) (v9 ++ [[C.v (.int .u8 n5)]]) else none) else k0 v1 v2 v4 v5 v6 v7 v8 v9
noncomputable def LwFnBent_12 : Lp := ⟨12, [0, 3, 4, 10, 11], [0, 3, 4, 10], 4, 92, hwFnBent_12, xwFnBent_12, RwFnBent_12⟩
noncomputable def QwFnBent : Fx := ⟨Go.Proofs.Try.f7, [.ro], false, mkEnv tys_y6 [(27, Swbig), (33, SwsameOps), (34, Swat), (35, SiScanOps), (37, SsDrawScanOps), (38, SsScanOps)] [], fun id => bif Nat.beq id 15 then .sq [0, 2, 3, 4, 5, 6, 1, 7, 8] .stop else bif Nat.beq id 16 then .sq [0, 1, 2, 3, 4, 5, 6, 7, 8, 9, 10, 11, 12, 13] .stop else .stop, [LwFnBent_12]⟩
noncomputable def FwFnBent : List S → Option Res := veil QwFnBent.run
noncomputable def SwFnBent : Spec := ⟨[.ro], false, FwFnBent⟩
theorem mwFnBent (x1 : Option Bool) (x2 : List (List C)) : FwFnBent [.one (.sl false x1 1 x2)] = cV false [.bool] (Fwbig [.one (.sl false x1 1 x2)]) fun b1 => bif b1 then fr false 1 [.one (.bool true)] else cV false [.sl 1] (FsDrawScanOps [.one (.sl false x1 1 x2)]) fun o1 l1 => cT [(false, [.sl 3]), (false, [.int .i64]), (false, [.int .i64])] (FsScanOps [.one (.sl false o1 1 (freezeRows l1))]) fun o2 l2 n1 n2 => bif (l2.length : Int) == 0 then fr false 1 [.one (.bool true)] else cT [(false, [.sl 3]), (false, [.int .i64]), (false, [.int .i64])] (FiScanOps [.one (.sl false o1 1 (freezeRows l1))]) fun o3 l3 n3 n4 => bif n3 != n1 then fr false 1 [.one (.bool false)] else cV false [.bool] (FwsameOps [.one (.sl false o3 3 (freezeRows l3)), .one (.sl false o2 3 (freezeRows l2))]) fun b2 => bif !b2 then fr false 1 [.one (.bool false)] else iterC (RwFnBent_12 (fun y1 y2 y3 y4 y5 y6 y7 y8 => ix 1 y4 ((y4[1]?).bind fun w1 => tOwn [.int .u8] w1 fun n5 => cV false [.int .i64] (Fwat [.one (.sl false y1 1 y2), .one (.int 0)]) fun n6 => if W (4 + (W (n5))) = 0 then none else ix (Int.tmod n6 (W (4 + (W (n5))))) y8 ((y8[Int.toNat (Int.tmod n6 (W (4 + (W (n5)))))]?).bind fun w2 => tOwn [.int .u8] w2 fun n7 => cV false [.int .i64] (Fwat [.one (.sl false y1 1 y2), .one (.int 1)]) fun n8 => ix (Int.tmod n6 (W (4 + (W (n5))))) y8 (oc (.int .u8) y8 (Int.toNat (Int.tmod n6 (W (4 + (W (n5)))))) 0 ((let e1 : List (List C) := md y8 (Int.toNat (Int.tmod n6 (W (4 + (W (n5)))))) 0 (.v (.int .u8 (B8 (((BitVec.ofInt (IntKind.bits .u8) n7 ^^^ BitVec.ofInt (IntKind.bits .u8) (B8 (W (1 + (Int.tmod n8 255))))).toNat : Int))))); cT [(false, [.sl 3]), (false, [.int .i64]), (false, [.int .i64])] (FiScanOps [.one (.sl false y7 1 (freezeRows e1))]) fun o4 l4 n9 n10 => bif (l4.length : Int) == 0 then fr false 1 [.one (.bool true)] else cV false [.bool] (FwsameOps [.one (.sl false o4 3 (freezeRows l4)), .one (.sl false y5 3 (freezeRows y6))]) fun b3 => fr false 1 [.one (.bool (!b3))]))))))) FUEL x1 x2 0 o1 l1 o2 l2 (some false) [] := Fx.eq (by kernel_rfl)
theorem stwFnBent_12 : LwFnBent_12.Step QwFnBent.E QwFnBent.dr QwFnBent.lp ((findLoop 12 QwFnBent.code).getD .skip) := fun k nx v => by kernel_rfl
theorem okwFnBent : CalleeOk Go.Proofs.Try.prog 7 SwFnBent := Fx.ok (F := QwFnBent) follows (envTy_mk tys_y6_eq) (envSpec_of (specsOk_cons okwbig (specsOk_cons okwsameOps (specsOk_cons okwat (specsOk_cons okiScanOps (specsOk_cons oksDrawScanOps (specsOk_cons oksScanOps specsOk_nil))))))) Go.Proofs.Try.func7 (by kernel_rfl) (by kernel_rfl) (by
  rw [show subs QwFnBent.code = [(findLoop 12 QwFnBent.code).getD .skip] by kernel_rfl]
  exact ⟨stepAt_some (by kernel_rfl) stwFnBent_12, trivial⟩) (by kernel_rfl) (by kernel_rfl) rfl
theorem FwFnBent_at (o : Option Bool) (bs : List Int) (h : bOk bs) : FwFnBent [S.one (C.sl false o 1 (bs.map encB))] = some (S.one (C.bool true), [S.one C.unk]) := by
  have key : Ok (FwFnBent [S.one (C.sl false o 1 (bs.map encB))]) (fun r => r = (S.one (C.bool true), [S.one C.unk])) := by
    rw [mwFnBent, Fwbig_at]
    by_cases hbg : (bs.length : Int) > 1048576
    · exact ok_eq (r := (S.one (C.bool true), [S.one C.unk])) (by simp [hbg]) rfl
    obtain ⟨nl, b, e, hb, hbl⟩ := dScan o bs (by omega)
    have e1 := FsScanOps_at nl b ⟨hb, by omega⟩
    have e2 := FiScanOps_at nl b ⟨hb, by omega⟩
    by_cases h4 : 4000 < b.length
    · rw [scanRes, if_pos h4] at e1
      exact ok_eq (r := (S.one (C.bool true), [S.one C.unk])) (by simp [hbg, e, e1]) rfl
    rw [scanRes, if_neg h4] at e1 e2
    by_cases h0 : (scan b).1 = []
    · exact ok_eq (r := (S.one (C.bool true), [S.one C.unk])) (by simp [hbg, e, e1, h0]) rfl
    obtain ⟨l, kb, r, hB, _⟩ := scan_some h0
    obtain ⟨n, m, a1, a2, a3, a4, a5, _⟩ := block_bytes hb hB
    have h1l : 1 < b.length := by omega
    have g1 : b[1] = (m : Int) := by rw [← a2]; simp [List.getD, h1l]
    have r1 := bOk_get hb h1l
    rw [g1] at r1
    have hsl := scan_length b
    have e3 := FwsameOps_at (some false) (scan b).1 (some false) (scan b).1 (by omega)
    have hl0 : (((scan b).1.length : Int) == 0) = false := by
      have : (scan b).1.length ≠ 0 := fun h => h0 (List.length_eq_zero_iff.1 h)
      simp; omega
    refine ok_of (by simp [hbg, e, e1, e2, hl0, h0, e3]; rfl) ?_
    refine iter_ok (h := hwFnBent_12) b.length (fun i (x : List Int) f => f o (bs.map encB) (i : Int) nl (b.map encB) (some false) ((scan b).1.map encOp) (some false) (x.map encB)) (fun i x => x = b.take i) _ (by omega) ?_ ?_ [] (by simp)
    · intro nx x hx
      rw [List.take_of_length_le (Nat.le_refl _)] at hx
      subst hx
      obtain ⟨v0, f0, hv0⟩ := dAt0 o bs h 0 (by omega) (by omega)
      obtain ⟨v1, f1, hv1⟩ := dAt0 o bs h 1 (by omega) (by omega)
      have f0 : Fwat [.one (.sl false o 1 (bs.map encB)), .one (.int 0)] = some (.one (.int v0), [.one .unk, .one .unk]) := f0
      have f1 : Fwat [.one (.sl false o 1 (bs.map encB)), .one (.int 1)] = some (.one (.int v1), [.one .unk, .one .unk]) := f1
      have w1 : W (m : Int) = (m : Int) := W_eq (by omega) (by omega)
      have w2 : W (4 + (m : Int)) = 4 + (m : Int) := W_eq (by omega) (by omega)
      have hm0 : ¬ (4 + (m : Int) = 0) := by omega
      obtain ⟨k, hk⟩ := Int.eq_ofNat_of_zero_le (Int.tmod_nonneg (4 + (m : Int)) hv0)
      have hkm : (k : Int) < 4 + (m : Int) := by rw [← hk]; exact Int.tmod_lt_of_pos _ (by omega)
      have hz0 := Int.tmod_nonneg 255 hv1
      have hz1 : Int.tmod v1 255 < 255 := Int.tmod_lt_of_pos _ (by omega)
      obtain ⟨z, hz⟩ : ∃ z, z = Int.tmod v1 255 := ⟨_, rfl⟩
      rw [← hz] at hz0 hz1
      have w3 : W (1 + z) = 1 + z := W_eq (by omega) (by omega)
      have w4 : B8 (1 + z) = 1 + z := B8_eq (by omega) (by omega)
      have hkb : k < x.length := by omega
      have hne := xor_ne (z := 1 + z) (bOk_get hb hkb) (by omega)
      have hy := B8_range (((BitVec.ofInt (IntKind.bits .u8) x[k] ^^^ BitVec.ofInt (IntKind.bits .u8) (1 + z)).toNat : Int))
      obtain ⟨y, hyd⟩ : ∃ y, y = B8 (((BitVec.ofInt (IntKind.bits .u8) x[k] ^^^ BitVec.ofInt (IntKind.bits .u8) (1 + z)).toNat : Int)) := ⟨_, rfl⟩
      rw [← hyd] at hne hy
      have hyd2 := hyd
      simp at hyd2
      have hbc : bOk (x.set k y) := fun v hv => by
        rcases List.mem_or_eq_of_mem_set hv with hv | rfl
        · exact hb v hv
        · exact hy
      have e4 := FiScanOps_at (some false) (x.set k y) ⟨hbc, by simp; omega⟩
      rw [scanRes, if_neg (by simp; omega)] at e4
      have hmd : md (x.map encB) k 0 (.v (.int .u8 y)) = (x.set k y).map encB := md_map hkb rfl
      have hgk : y ≠ x.getD k 0 := by simpa [List.getD, hkb] using hne
      by_cases h5 : (scan (x.set k y)).1 = []
      · exact ok_eq (r := (S.one (C.bool true), [S.one C.unk])) (by simp [-List.map_set, RwFnBent_12, h1l, g1, f0, f1, w1, w2, hm0, hk, hkb, ← hz, w3, w4, ← hyd2, hmd, e4, h5]) rfl
      · have hbs := bent_scan hb hy hB (by omega) hgk h5
        have hl5 : (((scan (x.set k y)).1.length : Int) == 0) = false := by
          have : (scan (x.set k y)).1.length ≠ 0 := fun h => h5 (List.length_eq_zero_iff.1 h)
          simp; omega
        have hsl5 := scan_length (x.set k y)
        rw [List.length_set] at hsl5
        have e5 := FwsameOps_at (some false) (scan (x.set k y)).1 (some false) (scan x).1 (by omega)
        rw [decide_eq_false hbs] at e5
        exact ok_eq (r := (S.one (C.bool true), [S.one C.unk])) (by simp [-List.map_set, RwFnBent_12, h1l, g1, f0, f1, w1, w2, hm0, hk, hkb, ← hz, w3, w4, ← hyd2, hmd, e4, hl5, h5, e5]) rfl
    · intro nx i x hi hx hW hnx
      subst hx
      have hL : (b.take i).length + 1 ≤ LIM := by unfold LIM; rw [List.length_take]; omega
      refine ok_of ?_ (hnx (b.take (i + 1)) rfl)
      have htk : (b.take (i + 1)).map encB = (b.map encB).take i ++ [encB b[i]] := by
        rw [List.take_succ_eq_append_getElem hi, List.map_append, List.map_take]; rfl
      rw [htk]
      rw [List.length_take] at hL
      simp [RwFnBent_12, hi, hL, hW]
  obtain ⟨r, h1, rfl⟩ := key
  exact h1
end Go.Proofs.Gh.Gm
set_option linter.unusedVariables false
set_option linter.unusedSimpArgs false
set_option maxRecDepth 100000
set_option maxHeartbeats 2000000
namespace Go.Proofs.Gh.Gm
def tys_t9 : List (Nat × TI) := []
theorem tys_t9_eq : tys_t9.map (fun x => tiOf Go.Proofs.Try.prog x.1 x.2.cks) = tys_t9.map fun x => some x.2 := by kernel_rfl
theorem typed_bytesB {ds : List C} (h : Typed Go.Proofs.Try.prog 9 38 ds) : ∃ (nl : Option Bool) (l : List Int), ds = [C.sl false nl 1 (l.map encB)] ∧ bOk l := by
  rw [Typed, Go.Proofs.Try.underlying38] at h
  obtain ⟨es, rfl, hlen, hr⟩ := h
  obtain ⟨l, rfl, hl⟩ := rows_map (f := encB) (G := fun n : Int => 0 ≤ n ∧ n ≤ 255) (es := es) (fun row hrow => by
    have := hr row hrow
    simp only [Typed, Go.Proofs.Try.underlying5] at this
    obtain ⟨n, rfl, hw⟩ := this
    refine ⟨n, rfl, ?_⟩
    simp only [Lit.wf, Bool.and_eq_true, decide_eq_true_eq] at hw
    have h1 : IntKind.min .u8 = 0 := by rfl
    have h2 : IntKind.max .u8 = 255 := by rfl
    rw [h1, h2] at hw
    exact hw)
  refine ⟨none, l, ?_, hl⟩
  rw [show Go.Proofs.Try.prog.cellsOf 5 = 1 by kernel_rfl]
end Go.Proofs.Gh.Gm
