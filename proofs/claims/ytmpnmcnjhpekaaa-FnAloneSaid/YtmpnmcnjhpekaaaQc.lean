/- The program's functions by the ghost evaluator: what each computes, and that it does. -/
import Derived.Test.YtmpnmcnjhpekaaaGh47
import Derived.Test.YtmpnmcnjhpekaaaGh48
import Derived.Test.YtmpnmcnjhpekaaaGh45
import Derived.Test.YtmpnmcnjhpekaaaProg
import Derived.KernelRfl
import Derived.Test.YtmpnmcnjhpekaaaQb
set_option linter.unusedVariables false
set_option linter.unusedSimpArgs false
set_option maxRecDepth 100000
set_option maxHeartbeats 2000000
namespace Go.Proofs.Gh.Gm
def tys_m14 : List (Nat × TI) := [(3, ⟨false, 8, [.int .i64], [.int 0], .scalar, false, none⟩),
  (4, ⟨false, 1, [.bool], [.bool false], .scalar, false, none⟩),
  (23, ⟨false, 24, [.sl 1], [.sl true (some true) 1 []], .slice 3, false, none⟩),
  (64, ⟨false, 24, [.sl 1], [.sl true (some true) 1 []], .slice 69, false, none⟩),
  (66, ⟨true, 32, [.int .i64, .sl 1], [.int 0, .sl true (some true) 1 []], .struct [(0, 1, false), (1, 1, false)], false, none⟩),
  (69, ⟨false, 24, [.sl 4], [.sl true (some true) 4 []], .slice 135, false, none⟩),
  (71, ⟨true, 24, [.sl 1], [.sl true (some true) 1 []], .struct [(0, 1, false)], false, none⟩),
  (72, ⟨false, 24, [.sl 3], [.sl true (some true) 3 []], .slice 84, false, none⟩),
  (74, ⟨true, 48, [.sl 1, .sl 3], [.sl true (some true) 1 [], .sl true (some true) 3 []], .struct [(0, 1, true), (1, 1, false)], false, none⟩),
  (78, ⟨true, 16, [.int .i64, .bool], [.int 0, .bool false], .struct [(0, 1, false), (1, 1, false)], true, none⟩),
  (82, ⟨false, 24, [.sl 2], [.sl true (some true) 2 []], .slice 144, false, none⟩),
  (84, ⟨true, 56, [.int .i64, .sl 1, .sl 2], [.int 0, .sl true (some true) 1 [], .sl true (some true) 2 []], .struct [(0, 1, false), (1, 1, false), (2, 1, false)], false, none⟩),
  (135, ⟨true, 32, [.int .i64, .int .i64, .int .i64, .int .i64], [.int 0, .int 0, .int 0, .int 0], .struct [(0, 1, false), (1, 1, false), (2, 1, false), (3, 1, false)], true, none⟩),
  (144, ⟨true, 16, [.int .i64, .int .i64], [.int 0, .int 0], .struct [(0, 1, false), (1, 1, false)], true, none⟩)]
theorem tys_m14_eq : tys_m14.map (fun x => tiOf Go.Proofs.Try.prog x.1 x.2.cks) = tys_m14.map fun x => some x.2 := by kernel_rfl
def mkMa (m : Machine) (k : Int) : Machine := ⟨mkIntS m.cells.length k, mkThs m.ths (k + m.cells.length)⟩
def maN (m : Machine) : Int := m.cells.length + thsN m.ths
theorem readT_foldl (b : List Slot) (c : List Int) (a : Int) : b.foldl (fun o s => if s.a = a then s.v else o) (c[a.toNat]?.getD 0) = readT b c a := by
  have key : ∀ (b : List Slot) (o : Int), b.foldl (fun o s => if s.a = a then s.v else o) o = match b.reverse.find? fun s => s.a == a with
      | some s => s.v
      | none => o := by
    intro b
    induction b with
    | nil => intro o; rfl
    | cons s b ih =>
      intro o
      rw [List.foldl_cons, ih, List.reverse_cons, List.find?_append]
      cases (b.reverse.find? fun s => s.a == a) with
      | some x => rfl
      | none =>
        by_cases e : s.a = a
        · simp [e]
        · have e' : (s.a == a) = false := by simpa using e
          simp [e, e']
  rw [key]
  rfl
/-! sReadThrough: loop.example/g00712/spec.ReadThrough -/
@[reducible] def hsReadThrough_5 : Sh := ⟨[.one (.o (.sl false 2)), .one (.o (.i .i64)), .one (.o (.i .i64)), .one (.o (.i .i64))], [(false, [.o (.sl false 1)])]⟩
@[reducible] def xsReadThrough_5 : List (Ex × Sh) := [(.exit 0, ⟨[.one (.o (.i .i64))], [(false, [.o (.sl false 1)])]⟩)]
noncomputable def RsReadThrough_5 : KC xsReadThrough_5 (hsReadThrough_5.K → hsReadThrough_5.K) := fun k0 nx v1 v2 v3 v4 v5 v6 v7 => bif decide (v5 < (v2.length : Int)) then ix v5 v2 ((v2[Int.toNat v5]?).bind fun w1 => tRo [.int .i64] w1 fun n2 => bif n2 == v3 then ix v5 v2 ((v2[Int.toNat v5]?).bind fun w2 => tRo [.int .i64] (List.drop 1 w2) fun n3 => nx v1 v2 v3 n3 (W (v5 + 1)) v6 v7) else nx v1 v2 v3 v4 (W (v5 + 1)) v6 v7) else k0 v4 v6 v7
noncomputable def LsReadThrough_5 : Lp := ⟨5, [0, 2, 7, 8], [7], 1, 39, hsReadThrough_5, xsReadThrough_5, RsReadThrough_5⟩
noncomputable def QsReadThrough : Fx := ⟨Go.Proofs.Try.f210, [.ro, .ro, .ro], false, mkEnv tys_m14 [(113, SsMemOk), (114, SsBufOk), (213, SsPeek)] [], fun _ => .stop, [LsReadThrough_5]⟩
noncomputable def FsReadThrough : List S → Option Res := veil QsReadThrough.run
noncomputable def SsReadThrough : Spec := ⟨[.ro, .ro, .ro], false, FsReadThrough⟩
theorem msReadThrough (x1 : Option Bool) (x2 : List (List C)) (x3 : List (List C)) (x4 : Int) : FsReadThrough [.one (.sl false x1 2 x2), .agg [.sl false none 1 x3], .one (.int x4)] = cV false [.bool] (FsBufOk [.one (.sl false x1 2 x2)]) fun b1 => bif !b1 then fr false 3 [.one (.int 0)] else cV false [.bool] (FsMemOk [.agg [.sl false none 1 x3]]) fun b2 => bif !b2 then fr false 3 [.one (.int 0)] else cV false [.int .i64] (FsPeek [.agg [.sl false none 1 x3], .one (.int x4)]) fun n1 => iterC (RsReadThrough_5 (fun y1 y2 y3 => fr false 3 [.one (.int y1)])) FUEL x1 x2 x4 n1 0 none x3 := Fx.eq (by kernel_rfl)
theorem stsReadThrough_5 : LsReadThrough_5.Step QsReadThrough.E QsReadThrough.dr QsReadThrough.lp ((findLoop 5 QsReadThrough.code).getD .skip) := fun k nx v => by kernel_rfl
theorem oksReadThrough : CalleeOk Go.Proofs.Try.prog 210 SsReadThrough := Fx.ok (F := QsReadThrough) follows (envTy_mk tys_m14_eq) (envSpec_of (specsOk_cons oksMemOk (specsOk_cons oksBufOk (specsOk_cons oksPeek specsOk_nil)))) Go.Proofs.Try.func210 (by kernel_rfl) (by kernel_rfl) (by
  rw [show subs QsReadThrough.code = [(findLoop 5 QsReadThrough.code).getD .skip] by kernel_rfl]
  exact ⟨stepAt_some (by kernel_rfl) stsReadThrough_5, trivial⟩) (by kernel_rfl) (by kernel_rfl) rfl
theorem FsReadThrough_at (nl : Option Bool) (b : List Slot) (l : List Int) (a : Int) (h : l.length ≤ 1048576 ∧ memOk l = true ∧ bufOk b = true ∧ 0 ≤ a ∧ a < l.length) : FsReadThrough [S.one (C.sl false nl 2 (b.map encSlot)), S.agg [C.sl false none 1 (l.map encInt)], S.one (C.int a)] = some (S.one (C.int (readT b l a)), [S.one C.unk, S.one C.unk, S.one C.unk]) := by
  obtain ⟨h1, h2, h3, h4, h5⟩ := h
  have hb : b.length ≤ 3 := by
    simp only [bufOk, Bool.and_eq_true, decide_eq_true_eq] at h3; exact h3.1
  rw [msReadThrough, FsBufOk_at _ _ (show smallL b by omega), FsMemOk_at _ (show smallL l by omega), FsPeek_at _ _ ⟨h1, h2, h4, h5⟩, h2, h3]
  simp only [cV, Option.bind_some, tOne, tOwn, tRes, id, Bool.not_true, cond_false]
  refine (iter_fold (h := hsReadThrough_5) b (fun i (o : Int) f => f nl (b.map encSlot) a o (i : Int) none (l.map encInt)) (fun o s => if s.a = a then s.v else o) (fun o => fr false 3 [.one (.int o)]) (fun _ _ => True) (by omega) ?_ ?_ (l[a.toNat]?.getD 0) trivial).trans ?_
  · intro nx o _; simp [RsReadThrough_5]
  · intro nx i o hi _ hW
    refine ⟨trivial, ?_⟩
    by_cases e : b[i].a = a
    · simp [RsReadThrough_5, hi, hW, e]
    · have e' : (b[i].a == a) = false := by simpa using e
      simp [RsReadThrough_5, hi, hW, e, e']
  · rw [readT_foldl]; simp
@[simp] theorem md_length (es : List (List C)) (i j : Nat) (c : C) : (md es i j c).length = es.length := by simp [md]
@[simp] theorem ix_md (x : Int) (es : List (List C)) (i j : Nat) (c : C) (k : Option Res) : ix x (md es i j c) k = ix x es k := by simp [ix]
theorem md_self (es : List (List C)) (i j : Nat) (c : C) : (md es i j c)[i]? = (es[i]?).map fun row => row.modify j (plant [] c) := by simp [md, List.getElem?_modify]
theorem md_all {l : List Thread} {n : Nat} (hn : n < l.length) (a : Int) (v : List Int) (b : List Slot) : md (md (md (md (md (l.map (encTh true)) n 1 .unk) n 2 .unk) n 0 (.int a)) n 1 (.sl true none 1 (v.map encInt))) n 2 (.sl true none 2 (b.map encSlot)) = (l.set n ⟨a, v, b⟩).map (encTh true) := by
  apply List.ext_getElem?
  intro k
  simp only [md, List.getElem?_modify, List.getElem?_map, List.getElem?_set]
  by_cases e : n = k
  · subst e; simp [hn]
  · simp [e]
theorem md_allP {l : List Thread} {n : Nat} (hn : n < l.length) (a : Int) (v : List Int) (b : List Slot) (x y : Int) : md (md (md (md (md (l.map (encTh true)) n 1 .unk) n 2 .unk) n 0 (.int a)) n 1 (.sl true none 1 (v.map encInt))) n 2 (.sl true none 2 (b.map encSlot ++ [[.int x, .int y]])) = (l.set n ⟨a, v, b ++ [⟨x, y⟩]⟩).map (encTh true) := by
  have := md_all hn a v (b ++ [⟨x, y⟩])
  rwa [List.map_append] at this
/-! sl04Do: loop.example/g00712/spec.l04Do -/
noncomputable def Qsl04Do : Fx := ⟨Go.Proofs.Try.f203, [.ro, .ro, .ro], false, mkEnv tys_m14 [(208, Ssl04Copy), (209, SsClamp), (210, SsReadThrough)] [], fun id => bif Nat.beq id 4 then .sq [0, 1, 2, 3, 4, 5, 6, 7, 8, 9, 10, 11, 12, 13, 14] .stop else bif Nat.beq id 8 then .sq [0, 1, 2, 3, 4, 5, 6, 7, 8, 9, 10, 11] .stop else bif Nat.beq id 15 then .sq [0, 1, 2, 3, 4, 5, 6, 7, 8, 9, 10, 11, 12, 13, 14, 15, 16] .stop else bif Nat.beq id 17 then .sq [0, 1, 2, 3, 4, 5, 6, 7, 8, 9, 10, 11] .stop else bif Nat.beq id 19 then .sq [0, 1, 2, 3, 4, 5, 6, 7, 8, 9, 10, 11, 12, 13] .stop else bif Nat.beq id 21 then .sq [0, 1, 2, 3, 4, 5, 6, 7, 8, 9, 10, 11, 12] .stop else bif Nat.beq id 22 then .sq [0, 1, 2, 3, 4, 5, 6, 7, 8, 9, 10, 11] .stop else bif Nat.beq id 30 then .sq [0, 1, 2, 3, 4, 5, 6, 7, 8, 9, 10, 11] .stop else bif Nat.beq id 33 then .sq [0, 1, 2, 3, 4, 5, 6, 7, 8, 9, 10, 11, 12, 13, 14, 15, 16] .stop else .stop, []⟩
noncomputable def Fsl04Do : List S → Option Res := veil Qsl04Do.run
noncomputable def Ssl04Do : Spec := ⟨[.ro, .ro, .ro], false, Fsl04Do⟩
theorem msl04Do (x1 : Int) (x2 : List (List C)) (x3 : List (List C)) (x4 : List (List C)) (x5 : Int) (x6 : Bool) : Fsl04Do [.agg [.int x1, .sl false none 1 x2], .agg [.sl false none 1 x3, .sl false none 3 x4], .agg [.int x5, .bool x6]] = cV true [.sl 1, .sl 3] (Fsl04Copy [.agg [.sl false none 1 x3, .sl false none 3 x4]]) fun o1 l1 o2 l2 => ix x5 l2 ((l2[Int.toNat x5]?).bind fun w1 => tOwn [.int .i64, .sl 1, .sl 2] w1 fun n1 => (l2[Int.toNat x5]?).bind fun w2 => (w2[1]?).bind fun c1 => own3 c1 fun o3 m1 l3 => ((md l2 (Int.toNat x5) 1 .unk)[Int.toNat x5]?).bind fun w3 => (w3[2]?).bind fun c2 => own3 c2 fun o4 m2 l4 => bif x6 then if m2 = 2 then ix 0 l4 (asO 2 (.sl true none m2 l4) fun o5 l5 => (l5[0]?).bind fun w4 => tOwn [.int .i64] w4 fun n2 => if m2 = 2 then ix 0 l4 (asO 2 (.sl true none m2 l4) fun o6 l6 => (l6[0]?).bind fun w5 => tOwn [.int .i64] (List.drop 1 w5) fun n3 => ix n2 l1 (oc (.int .i64) l1 (Int.toNat n2) 0 ((let e1 : List (List C) := md l1 (Int.toNat n2) 0 (.int n3); asO 2 (.sl true none m2 l4) fun o7 l7 => if 0 ≤ (1 : Int) ∧ (1 : Int) ≤ ((l7.length : Nat) : Int) ∧ ((l7.length : Nat) : Int) ≤ (l7.length : Int) then ix x5 (md (md l2 (Int.toNat x5) 1 .unk) (Int.toNat x5) 2 .unk) (oc (.int .i64) (md (md l2 (Int.toNat x5) 1 .unk) (Int.toNat x5) 2 .unk) (Int.toNat x5) 0 ((let e2 : List (List C) := md (md (md l2 (Int.toNat x5) 1 .unk) (Int.toNat x5) 2 .unk) (Int.toNat x5) 0 (.int n1); (e2[Int.toNat x5]?).bind fun w6 => (w6[1]?).bind fun c3 => (let e3 : List (List C) := md e2 (Int.toNat x5) 1 (.sl true none m1 l3); (e3[Int.toNat x5]?).bind fun w7 => (w7[2]?).bind fun c4 => (let e4 : List (List C) := md e3 (Int.toNat x5) 2 (.sl true none 2 (List.drop 1 (List.take (Int.toNat (l7.length : Int)) l7))); fr false 3 [.agg [.sl true none 1 e1, .sl true none 3 e4]]))))) else none)))) else none) else none else ix x5 x2 ((x2[Int.toNat x5]?).bind fun w8 => tRo [.sl 4] w8 fun _ l8 => ix n1 l8 ((l8[Int.toNat n1]?).bind fun w9 => tRo [.int .i64, .int .i64, .int .i64, .int .i64] w9 fun n4 n5 n6 n7 => bif n4 == 0 then if m1 = 1 then ix n5 l3 (asO 1 (.sl true none m1 l3) fun o8 l9 => (l9[Int.toNat n5]?).bind fun w10 => (w10[0]?).bind fun c5 => (C.asInt .i64 c5).bind fun n8 => (let e5 : List (List C) := md l3 (Int.toNat n5) 0 (.int n7); ix x5 (md (md l2 (Int.toNat x5) 1 .unk) (Int.toNat x5) 2 .unk) (oc (.int .i64) (md (md l2 (Int.toNat x5) 1 .unk) (Int.toNat x5) 2 .unk) (Int.toNat x5) 0 ((let e6 : List (List C) := md (md (md l2 (Int.toNat x5) 1 .unk) (Int.toNat x5) 2 .unk) (Int.toNat x5) 0 (.int (W (n1 + 1))); (e6[Int.toNat x5]?).bind fun w11 => (w11[1]?).bind fun c6 => (let e7 : List (List C) := md e6 (Int.toNat x5) 1 (.sl true none m1 e5); (e7[Int.toNat x5]?).bind fun w12 => (w12[2]?).bind fun c7 => (let e8 : List (List C) := md e7 (Int.toNat x5) 2 (.sl true none m2 l4); fr false 3 [.agg [.sl true none 1 l1, .sl true none 3 e8]]))))))) else none else bif n4 == 1 then if m1 = 1 then ix n5 l3 (asO 1 (.sl true none m1 l3) fun o9 l10 => (l10[Int.toNat n5]?).bind fun w13 => tOwn [.int .i64] w13 fun n9 => if m1 = 1 then ix n6 l3 (asO 1 (.sl true none m1 l3) fun o10 l11 => (l11[Int.toNat n6]?).bind fun w14 => tOwn [.int .i64] w14 fun n10 => cV false [.int .i64] (FsClamp [.one (.int (W (n9 + n10)))]) fun n11 => if m1 = 1 then ix n5 l3 (asO 1 (.sl true none m1 l3) fun o11 l12 => (l12[Int.toNat n5]?).bind fun w15 => (w15[0]?).bind fun c8 => (C.asInt .i64 c8).bind fun n12 => (let e9 : List (List C) := md l3 (Int.toNat n5) 0 (.int n11); ix x5 (md (md l2 (Int.toNat x5) 1 .unk) (Int.toNat x5) 2 .unk) (oc (.int .i64) (md (md l2 (Int.toNat x5) 1 .unk) (Int.toNat x5) 2 .unk) (Int.toNat x5) 0 ((let e10 : List (List C) := md (md (md l2 (Int.toNat x5) 1 .unk) (Int.toNat x5) 2 .unk) (Int.toNat x5) 0 (.int (W (n1 + 1))); (e10[Int.toNat x5]?).bind fun w16 => (w16[1]?).bind fun c9 => (let e11 : List (List C) := md e10 (Int.toNat x5) 1 (.sl true none m1 e9); (e11[Int.toNat x5]?).bind fun w17 => (w17[2]?).bind fun c10 => (let e12 : List (List C) := md e11 (Int.toNat x5) 2 (.sl true none m2 l4); fr false 3 [.agg [.sl true none 1 l1, .sl true none 3 e12]]))))))) else none) else none) else none else bif n4 == 2 then cV false [.int .i64] (FsReadThrough [.one (.sl false none m2 (freezeRows l4)), .agg [.sl false none 1 (freezeRows l1)], .one (.int n7)]) fun n13 => if m1 = 1 then ix n5 l3 (asO 1 (.sl true none m1 l3) fun o12 l13 => (l13[Int.toNat n5]?).bind fun w18 => (w18[0]?).bind fun c11 => (C.asInt .i64 c11).bind fun n14 => (let e13 : List (List C) := md l3 (Int.toNat n5) 0 (.int n13); ix x5 (md (md l2 (Int.toNat x5) 1 .unk) (Int.toNat x5) 2 .unk) (oc (.int .i64) (md (md l2 (Int.toNat x5) 1 .unk) (Int.toNat x5) 2 .unk) (Int.toNat x5) 0 ((let e14 : List (List C) := md (md (md l2 (Int.toNat x5) 1 .unk) (Int.toNat x5) 2 .unk) (Int.toNat x5) 0 (.int (W (n1 + 1))); (e14[Int.toNat x5]?).bind fun w19 => (w19[1]?).bind fun c12 => (let e15 : List (List C) := md e14 (Int.toNat x5) 1 (.sl true none m1 e13); (e15[Int.toNat x5]?).bind fun w20 => (w20[2]?).bind fun c13 => (let e16 : List (List C) := md e15 (Int.toNat x5) 2 (.sl true none m2 l4); fr false 3 [.agg [.sl true none 1 l1, .sl true none 3 e16]]))))))) else none else bif n4 == 3 then if m1 = 1 then ix n5 l3 (asO 1 (.sl true none m1 l3) fun o13 l14 => (l14[Int.toNat n5]?).bind fun w21 => tOwn [.int .i64] w21 fun n15 => asB 2 (.sl true none m2 l4) fun o14 l15 => if (l15.length + 1) * 16 ≤ LIM then ix x5 (md (md l2 (Int.toNat x5) 1 .unk) (Int.toNat x5) 2 .unk) (oc (.int .i64) (md (md l2 (Int.toNat x5) 1 .unk) (Int.toNat x5) 2 .unk) (Int.toNat x5) 0 ((let e17 : List (List C) := md (md (md l2 (Int.toNat x5) 1 .unk) (Int.toNat x5) 2 .unk) (Int.toNat x5) 0 (.int (W (n1 + 1))); (e17[Int.toNat x5]?).bind fun w22 => (w22[1]?).bind fun c14 => (let e18 : List (List C) := md e17 (Int.toNat x5) 1 (.sl true none m1 l3); (e18[Int.toNat x5]?).bind fun w23 => (w23[2]?).bind fun c15 => (let e19 : List (List C) := md e18 (Int.toNat x5) 2 (.sl true none 2 (l15 ++ [[.int n7, .int n15]])); fr false 3 [.agg [.sl true none 1 l1, .sl true none 3 e19]]))))) else none) else none else bif n4 == 5 then ix n7 l1 ((l1[Int.toNat n7]?).bind fun w24 => tOwn [.int .i64] w24 fun n16 => if m1 = 1 then ix n5 l3 (asO 1 (.sl true none m1 l3) fun o15 l16 => (l16[Int.toNat n5]?).bind fun w25 => tOwn [.int .i64] w25 fun n17 => bif n16 == n17 then if m1 = 1 then ix n6 l3 (asO 1 (.sl true none m1 l3) fun o16 l17 => (l17[Int.toNat n6]?).bind fun w26 => tOwn [.int .i64] w26 fun n18 => ix n7 l1 (oc (.int .i64) l1 (Int.toNat n7) 0 ((let e20 : List (List C) := md l1 (Int.toNat n7) 0 (.int n18); if m1 = 1 then ix n5 l3 (asO 1 (.sl true none m1 l3) fun o17 l18 => (l18[Int.toNat n5]?).bind fun w27 => (w27[0]?).bind fun c16 => (C.asInt .i64 c16).bind fun n19 => (let e21 : List (List C) := md l3 (Int.toNat n5) 0 (.int 1); ix x5 (md (md l2 (Int.toNat x5) 1 .unk) (Int.toNat x5) 2 .unk) (oc (.int .i64) (md (md l2 (Int.toNat x5) 1 .unk) (Int.toNat x5) 2 .unk) (Int.toNat x5) 0 ((let e22 : List (List C) := md (md (md l2 (Int.toNat x5) 1 .unk) (Int.toNat x5) 2 .unk) (Int.toNat x5) 0 (.int (W (n1 + 1))); (e22[Int.toNat x5]?).bind fun w28 => (w28[1]?).bind fun c17 => (let e23 : List (List C) := md e22 (Int.toNat x5) 1 (.sl true none m1 e21); (e23[Int.toNat x5]?).bind fun w29 => (w29[2]?).bind fun c18 => (let e24 : List (List C) := md e23 (Int.toNat x5) 2 (.sl true none m2 l4); fr false 3 [.agg [.sl true none 1 e20, .sl true none 3 e24]]))))))) else none)))) else none else if m1 = 1 then ix n5 l3 (asO 1 (.sl true none m1 l3) fun o18 l19 => (l19[Int.toNat n5]?).bind fun w30 => (w30[0]?).bind fun c19 => (C.asInt .i64 c19).bind fun n20 => (let e25 : List (List C) := md l3 (Int.toNat n5) 0 (.int 0); ix x5 (md (md l2 (Int.toNat x5) 1 .unk) (Int.toNat x5) 2 .unk) (oc (.int .i64) (md (md l2 (Int.toNat x5) 1 .unk) (Int.toNat x5) 2 .unk) (Int.toNat x5) 0 ((let e26 : List (List C) := md (md (md l2 (Int.toNat x5) 1 .unk) (Int.toNat x5) 2 .unk) (Int.toNat x5) 0 (.int (W (n1 + 1))); (e26[Int.toNat x5]?).bind fun w31 => (w31[1]?).bind fun c20 => (let e27 : List (List C) := md e26 (Int.toNat x5) 1 (.sl true none m1 e25); (e27[Int.toNat x5]?).bind fun w32 => (w32[2]?).bind fun c21 => (let e28 : List (List C) := md e27 (Int.toNat x5) 2 (.sl true none m2 l4); fr false 3 [.agg [.sl true none 1 l1, .sl true none 3 e28]]))))))) else none) else none) else bif n4 == 6 then if m1 = 1 then ix n5 l3 (asO 1 (.sl true none m1 l3) fun o19 l20 => (l20[Int.toNat n5]?).bind fun w33 => tOwn [.int .i64] w33 fun n21 => bif n21 == 0 then ix x5 (md (md l2 (Int.toNat x5) 1 .unk) (Int.toNat x5) 2 .unk) (oc (.int .i64) (md (md l2 (Int.toNat x5) 1 .unk) (Int.toNat x5) 2 .unk) (Int.toNat x5) 0 ((let e29 : List (List C) := md (md (md l2 (Int.toNat x5) 1 .unk) (Int.toNat x5) 2 .unk) (Int.toNat x5) 0 (.int n7); (e29[Int.toNat x5]?).bind fun w34 => (w34[1]?).bind fun c22 => (let e30 : List (List C) := md e29 (Int.toNat x5) 1 (.sl true none m1 l3); (e30[Int.toNat x5]?).bind fun w35 => (w35[2]?).bind fun c23 => (let e31 : List (List C) := md e30 (Int.toNat x5) 2 (.sl true none m2 l4); fr false 3 [.agg [.sl true none 1 l1, .sl true none 3 e31]]))))) else ix x5 (md (md l2 (Int.toNat x5) 1 .unk) (Int.toNat x5) 2 .unk) (oc (.int .i64) (md (md l2 (Int.toNat x5) 1 .unk) (Int.toNat x5) 2 .unk) (Int.toNat x5) 0 ((let e32 : List (List C) := md (md (md l2 (Int.toNat x5) 1 .unk) (Int.toNat x5) 2 .unk) (Int.toNat x5) 0 (.int (W (n1 + 1))); (e32[Int.toNat x5]?).bind fun w36 => (w36[1]?).bind fun c24 => (let e33 : List (List C) := md e32 (Int.toNat x5) 1 (.sl true none m1 l3); (e33[Int.toNat x5]?).bind fun w37 => (w37[2]?).bind fun c25 => (let e34 : List (List C) := md e33 (Int.toNat x5) 2 (.sl true none m2 l4); fr false 3 [.agg [.sl true none 1 l1, .sl true none 3 e34]])))))) else none else bif n4 == 7 then ix n7 l1 ((l1[Int.toNat n7]?).bind fun w38 => tOwn [.int .i64] w38 fun n22 => if m1 = 1 then ix n6 l3 (asO 1 (.sl true none m1 l3) fun o20 l21 => (l21[Int.toNat n6]?).bind fun w39 => tOwn [.int .i64] w39 fun n23 => ix n7 l1 (oc (.int .i64) l1 (Int.toNat n7) 0 ((let e35 : List (List C) := md l1 (Int.toNat n7) 0 (.int n23); if m1 = 1 then ix n5 l3 (asO 1 (.sl true none m1 l3) fun o21 l22 => (l22[Int.toNat n5]?).bind fun w40 => (w40[0]?).bind fun c26 => (C.asInt .i64 c26).bind fun n24 => (let e36 : List (List C) := md l3 (Int.toNat n5) 0 (.int n22); ix x5 (md (md l2 (Int.toNat x5) 1 .unk) (Int.toNat x5) 2 .unk) (oc (.int .i64) (md (md l2 (Int.toNat x5) 1 .unk) (Int.toNat x5) 2 .unk) (Int.toNat x5) 0 ((let e37 : List (List C) := md (md (md l2 (Int.toNat x5) 1 .unk) (Int.toNat x5) 2 .unk) (Int.toNat x5) 0 (.int (W (n1 + 1))); (e37[Int.toNat x5]?).bind fun w41 => (w41[1]?).bind fun c27 => (let e38 : List (List C) := md e37 (Int.toNat x5) 1 (.sl true none m1 e36); (e38[Int.toNat x5]?).bind fun w42 => (w42[2]?).bind fun c28 => (let e39 : List (List C) := md e38 (Int.toNat x5) 2 (.sl true none m2 l4); fr false 3 [.agg [.sl true none 1 e35, .sl true none 3 e39]]))))))) else none)))) else none) else bif n4 == 8 then if m1 = 1 then ix n5 l3 (asO 1 (.sl true none m1 l3) fun o22 l23 => (l23[Int.toNat n5]?).bind fun w43 => tOwn [.int .i64] w43 fun n25 => if m1 = 1 then ix n6 l3 (asO 1 (.sl true none m1 l3) fun o23 l24 => (l24[Int.toNat n6]?).bind fun w44 => tOwn [.int .i64] w44 fun n26 => cV false [.int .i64] (FsClamp [.one (.int (W (n25 - n26)))]) fun n27 => if m1 = 1 then ix n5 l3 (asO 1 (.sl true none m1 l3) fun o24 l25 => (l25[Int.toNat n5]?).bind fun w45 => (w45[0]?).bind fun c29 => (C.asInt .i64 c29).bind fun n28 => (let e40 : List (List C) := md l3 (Int.toNat n5) 0 (.int n27); ix x5 (md (md l2 (Int.toNat x5) 1 .unk) (Int.toNat x5) 2 .unk) (oc (.int .i64) (md (md l2 (Int.toNat x5) 1 .unk) (Int.toNat x5) 2 .unk) (Int.toNat x5) 0 ((let e41 : List (List C) := md (md (md l2 (Int.toNat x5) 1 .unk) (Int.toNat x5) 2 .unk) (Int.toNat x5) 0 (.int (W (n1 + 1))); (e41[Int.toNat x5]?).bind fun w46 => (w46[1]?).bind fun c30 => (let e42 : List (List C) := md e41 (Int.toNat x5) 1 (.sl true none m1 e40); (e42[Int.toNat x5]?).bind fun w47 => (w47[2]?).bind fun c31 => (let e43 : List (List C) := md e42 (Int.toNat x5) 2 (.sl true none m2 l4); fr false 3 [.agg [.sl true none 1 l1, .sl true none 3 e43]]))))))) else none) else none) else none else ix x5 (md (md l2 (Int.toNat x5) 1 .unk) (Int.toNat x5) 2 .unk) (oc (.int .i64) (md (md l2 (Int.toNat x5) 1 .unk) (Int.toNat x5) 2 .unk) (Int.toNat x5) 0 ((let e44 : List (List C) := md (md (md l2 (Int.toNat x5) 1 .unk) (Int.toNat x5) 2 .unk) (Int.toNat x5) 0 (.int (W (n1 + 1))); (e44[Int.toNat x5]?).bind fun w48 => (w48[1]?).bind fun c32 => (let e45 : List (List C) := md e44 (Int.toNat x5) 1 (.sl true none m1 l3); (e45[Int.toNat x5]?).bind fun w49 => (w49[2]?).bind fun c33 => (let e46 : List (List C) := md e45 (Int.toNat x5) 2 (.sl true none m2 l4); fr false 3 [.agg [.sl true none 1 l1, .sl true none 3 e46]])))))))) := Fx.eq (by kernel_rfl)
theorem oksl04Do : CalleeOk Go.Proofs.Try.prog 203 Ssl04Do := Fx.ok (F := Qsl04Do) follows (envTy_mk tys_m14_eq) (envSpec_of (specsOk_cons oksl04Copy (specsOk_cons oksClamp (specsOk_cons oksReadThrough specsOk_nil)))) Go.Proofs.Try.func203 (by kernel_rfl) (by kernel_rfl) (by rw [show subs Qsl04Do.code = [] by kernel_rfl]; trivial) (by kernel_rfl) (by kernel_rfl) rfl
theorem Fsl04Do_at (p : Prog) (m : Machine) (t : Int) (dr : Bool) (h : progOk p = true ∧ isMa p m = true ∧ canMv p m t dr = true) : Fsl04Do [S.agg (encProg false p), S.agg (encMa false m), S.agg [C.int t, C.bool dr]] = some (S.agg (encMa true (mvM p m t dr)), [S.one C.unk, S.one C.unk, S.one C.unk]) := by
  obtain ⟨hp, hm, hcan⟩ := h
  rw [msl04Do, Fsl04Copy_at m (bT_of hp hm)]
  cases dr
  · obtain ⟨h0, hx⟩ := exOk_of hp hm hcan
    obtain ⟨t, rfl⟩ := Int.eq_ofNat_of_zero_le h0
    simp only [Int.toNat_natCast] at hx
    obtain ⟨ht, hc, n, hn, hpc, hth, hin, hmo, hml, hcl, h3, he⟩ := exOk_get hx
    simp only [mvM, cond_false, Int.toNat_natCast]
    obtain ⟨pc, codes⟩ := p
    obtain ⟨cells, ths⟩ := m
    simp only at ht hc hn hpc hth hin hmo hml hcl h3 he
    rw [he]
    obtain ⟨⟨hp1, hp2⟩, hv4, hvv, hbo, hbc⟩ := thOk_iff.1 hth
    have hW : W ((n : Int) + 1) = (n : Int) + 1 := W_eq (by omega) (by omega)
    generalize hi : codes[t][n] = i at *
    simp only [instrOk, Bool.and_eq_true] at hin
    obtain ⟨⟨⟨⟨⟨⟨⟨g1, g2⟩, g3⟩, g4⟩, g5⟩, g6⟩, g7⟩, g8⟩ := hin
    simp only [inB, Bool.and_eq_true, decide_eq_true_eq] at g1 g2 g3 g4 g5
    obtain ⟨ir, hr⟩ := Int.eq_ofNat_of_zero_le g4.1
    obtain ⟨is, hs⟩ := Int.eq_ofNat_of_zero_le g5.1
    have hir : ir < ths[t].vals.length := by omega
    have his : is < ths[t].vals.length := by omega
    have hvr := hvv _ (List.getElem_mem hir)
    have hvs := hvv _ (List.getElem_mem his)
    simp only [isV, inB, Bool.and_eq_true, decide_eq_true_eq] at hvr hvs
    have hA : W (ths[t].vals[ir] + ths[t].vals[is]) = ths[t].vals[ir] + ths[t].vals[is] := W_eq (by omega) (by omega)
    have hS : W (ths[t].vals[ir] - ths[t].vals[is]) = ths[t].vals[ir] - ths[t].vals[is] := W_eq (by omega) (by omega)
    have hL : ths[t].buf.length ≤ 3 := by
      simp only [bufOk, Bool.and_eq_true, decide_eq_true_eq] at hbo; exact hbo.1
    have hLim : (ths[t].buf.length + 1) * 16 ≤ LIM := by unfold LIM; omega
    have hcl16 : cells.length ≤ 16 := by
      simp only [memOk, inB, Bool.and_eq_true, decide_eq_true_eq] at hmo; omega
    have hcases : i.op = 0 ∨ i.op = 1 ∨ i.op = 8 ∨ i.op = 4 ∨ i.op = 6 ∨ i.op = 2 ∨ i.op = 3 ∨ i.op = 5 ∨ i.op = 7 := by omega
    have hn2 : i.op = 2 ∨ i.op = 3 ∨ i.op = 5 ∨ i.op = 7 → 0 ≤ i.n ∧ i.n < cells.length := by
      intro ho
      have : inB i.n 0 (pc - 1) = true := by
        rcases ho with e | e | e | e <;> simpa [useN, e] using g8
      simp only [inB, Bool.and_eq_true, decide_eq_true_eq] at this
      omega
    have hmd := fun v b a => md_all ht a v b
    have hslot : [C.int i.n, C.int ths[t].vals[ir]] = encSlot ⟨i.n, ths[t].vals[ir]⟩ := rfl
    have hRT := fun k1 k2 => FsReadThrough_at none ths[t].buf cells i.n ⟨by omega, hmo, hbo, k1, k2⟩
    clear hth hbc hbo hmo hvv hx hcan hm hp he
    rcases hcases with e | e | e | e | e | e | e | e | e
    · simp [-List.map_set, ht, hc, hn, hpc, hi, hW, hr, hs, hir, his, md_self, oc, md_int, hmd, e, execI]
    · simp [-List.map_set, ht, hc, hn, hpc, hi, hW, hr, hs, hir, his, md_self, oc, md_int, hmd, e, execI, FsClamp_at, hA]
    · simp [-List.map_set, ht, hc, hn, hpc, hi, hW, hr, hs, hir, his, md_self, oc, md_int, hmd, e, execI, FsClamp_at, hS]
    · simp [-List.map_set, ht, hc, hn, hpc, hi, hW, hr, hs, hir, his, md_self, oc, md_int, hmd, e, execI]
    · cases hz : (ths[t].vals[ir] == 0)
      · simp [-List.map_set, ht, hc, hn, hpc, hi, hW, hr, hs, hir, his, md_self, oc, md_int, hmd, e, execI, hz]
      · simp [-List.map_set, ht, hc, hn, hpc, hi, hW, hr, hs, hir, his, md_self, oc, md_int, hmd, e, execI, hz]
    · obtain ⟨k1, k2⟩ := hn2 (by omega)
      simp [-List.map_set, ht, hc, hn, hpc, hi, hW, hr, hs, hir, his, md_self, oc, md_int, hmd, e, execI, hRT k1 k2]
    · simp [-List.map_set, ht, hc, hn, hpc, hi, hW, hr, hs, hir, his, md_self, oc, md_int, md_allP ht, e, execI, hLim]
    · obtain ⟨k1, k2⟩ := hn2 (by omega)
      obtain ⟨k, hk⟩ := Int.eq_ofNat_of_zero_le k1
      have hk' : k < cells.length := by omega
      cases hz : (cells[k] == ths[t].vals[ir])
      · simp [-List.map_set, ht, hc, hn, hpc, hi, hW, hr, hs, hir, his, md_self, oc, md_int, hmd, e, execI, hk, hk', hz]
      · simp [-List.map_set, ht, hc, hn, hpc, hi, hW, hr, hs, hir, his, md_self, oc, md_int, hmd, e, execI, hk, hk', hz]
    · obtain ⟨k1, k2⟩ := hn2 (by omega)
      obtain ⟨k, hk⟩ := Int.eq_ofNat_of_zero_le k1
      have hk' : k < cells.length := by omega
      simp [-List.map_set, ht, hc, hn, hpc, hi, hW, hr, hs, hir, his, md_self, oc, md_int, hmd, e, execI, hk, hk']
  · obtain ⟨h0, hx⟩ := drOk_of hm hcan
    obtain ⟨t, rfl⟩ := Int.eq_ofNat_of_zero_le h0
    simp only [Int.toNat_natCast] at hx
    obtain ⟨th, s, b, h1, h2, h3, h4⟩ := hx
    obtain ⟨cells, ths⟩ := m
    simp only at h1 h4
    obtain ⟨ht, rfl⟩ := List.getElem?_eq_some_iff.1 h1
    obtain ⟨k, hk⟩ := Int.eq_ofNat_of_zero_le h3
    have hk' : k < cells.length := by omega
    have hx0 : ix 0 (encSlot s :: b.map encSlot) = fun k => k := by funext k; simp [ix]
    have hx1 : (1 : Int) ≤ (b.length : Int) + 1 := by omega
    simp [-List.map_set, ht, h2, hk, hk', md_self, oc, md_int, md_all ht, mvM, drainM, hx0, hx1]
end Go.Proofs.Gh.Gm
set_option linter.unusedVariables false
set_option linter.unusedSimpArgs false
set_option maxRecDepth 100000
set_option maxHeartbeats 2000000
namespace Go.Proofs.Gh.Gm
def tys_m15 : List (Nat × TI) := [(3, ⟨false, 8, [.int .i64], [.int 0], .scalar, false, none⟩),
  (4, ⟨false, 1, [.bool], [.bool false], .scalar, false, none⟩),
  (23, ⟨false, 24, [.sl 1], [.sl true (some true) 1 []], .slice 3, false, none⟩),
  (64, ⟨false, 24, [.sl 1], [.sl true (some true) 1 []], .slice 69, false, none⟩),
  (66, ⟨true, 32, [.int .i64, .sl 1], [.int 0, .sl true (some true) 1 []], .struct [(0, 1, false), (1, 1, false)], false, none⟩),
  (71, ⟨true, 24, [.sl 1], [.sl true (some true) 1 []], .struct [(0, 1, false)], false, none⟩),
  (72, ⟨false, 24, [.sl 3], [.sl true (some true) 3 []], .slice 84, false, none⟩),
  (74, ⟨true, 48, [.sl 1, .sl 3], [.sl true (some true) 1 [], .sl true (some true) 3 []], .struct [(0, 1, true), (1, 1, false)], false, none⟩),
  (84, ⟨true, 56, [.int .i64, .sl 1, .sl 2], [.int 0, .sl true (some true) 1 [], .sl true (some true) 2 []], .struct [(0, 1, false), (1, 1, false), (2, 1, false)], false, none⟩)]
theorem tys_m15_eq : tys_m15.map (fun x => tiOf Go.Proofs.Try.prog x.1 x.2.cks) = tys_m15.map fun x => some x.2 := by kernel_rfl
/-! sStart: loop.example/g00712/spec.Start -/
@[reducible] def hsStart_5 : Sh := ⟨[.one (.o (.pl 0 0 [])), .one (.o (.pl 1 0 [])), .one (.o (.pl 4 0 [])), .one (.o (.i .i64))], [(false, [.o (.i .i64), .o (.sl false 1)]), (false, [.o (.sl true 1), .o (.sl true 3)]), (true, [.o .u]), (true, [.o .u]), (false, [.o (.sl true 1), .o (.sl true 3)])]⟩
@[reducible] def xsStart_5 : List (Ex × Sh) := [(.exit 0, ⟨[.one (.o (.pl 1 0 [])), .one (.o (.pl 4 0 []))], [(false, [.o (.i .i64), .o (.sl false 1)]), (false, [.o (.sl true 1), .o (.sl true 3)]), (true, [.o .u]), (true, [.o .u]), (false, [.o (.sl true 1), .o (.sl true 3)])]⟩)]
noncomputable def RsStart_5 : KC xsStart_5 (hsStart_5.K → hsStart_5.K) := fun k0 nx v1 v2 v3 v4 v5 v6 v7 v8 v9 v10 v11 v12 => bif decide (v1 < (v4.length : Int)) then if (v12.length + 1) * 56 ≤ LIM then nx (W (v1 + 1)) v2 v3 v4 v5 v6 v7 v8 v9 v10 none (v12 ++ [[.int 0, .sl true none 1 [[.int 0], [.int 0], [.int 0], [.int 0]], .sl true none 2 []]]) else none else k0 v2 v3 v4 v5 v6 v7 v8 v9 v10 v11 v12
noncomputable def LsStart_5 : Lp := ⟨5, [1, 2, 4, 5], [2, 4], 5, 30, hsStart_5, xsStart_5, RsStart_5⟩
noncomputable def QsStart : Fx := ⟨Go.Proofs.Try.f201, [.ro], false, mkEnv tys_m15 [(51, SsProgOk)] [], fun id => bif Nat.beq id 7 then .sq [0, 1, 2, 3, 4, 5, 6, 7] .stop else .stop, [LsStart_5]⟩
noncomputable def FsStart : List S → Option Res := veil QsStart.run
noncomputable def SsStart : Spec := ⟨[.ro], false, FsStart⟩
theorem msStart (x1 : Int) (x2 : List (List C)) : FsStart [.agg [.int x1, .sl false none 1 x2]] = cV false [.bool] (FsProgOk [.agg [.int x1, .sl false none 1 x2]]) fun b1 => bif !b1 then fr false 1 [.agg [.sl true none 1 [], .sl true none 3 []], .one (.bool false)] else if 0 ≤ x1 ∧ x1 ≤ x1 ∧ x1 * 8 ≤ (LIM : Int) ∧ 0 < 1 then iterC (RsStart_5 (fun y1 y2 y3 y4 y5 y6 y7 y8 y9 y10 y11 => fr false 1 [.agg [.sl true none 1 y9, .sl true none 3 y11], .one (.bool true)])) FUEL 0 x1 none x2 (some true) [] (some true) [] none (List.replicate (Int.toNat x1) [.int 0]) none [] else none := Fx.eq (by kernel_rfl)
theorem stsStart_5 : LsStart_5.Step QsStart.E QsStart.dr QsStart.lp ((findLoop 5 QsStart.code).getD .skip) := fun k nx v => by kernel_rfl
theorem oksStart : CalleeOk Go.Proofs.Try.prog 201 SsStart := Fx.ok (F := QsStart) follows (envTy_mk tys_m15_eq) (envSpec_of (specsOk_cons oksProgOk specsOk_nil)) Go.Proofs.Try.func201 (by kernel_rfl) (by kernel_rfl) (by
  rw [show subs QsStart.code = [(findLoop 5 QsStart.code).getD .skip] by kernel_rfl]
  exact ⟨stepAt_some (by kernel_rfl) stsStart_5, trivial⟩) (by kernel_rfl) (by kernel_rfl) rfl
theorem FsStart_at (p : Prog) (h : bndL p.codes) : FsStart [S.agg (encProg false p)] = some (S.tup [S.agg (encMa true (bif progOk p then startM p else ⟨[], []⟩)), S.one (C.bool (progOk p))], [S.one C.unk]) := by
  rw [msStart, FsProgOk_at _ h]
  cases hp : progOk p
  · simp
  · have hp' := hp
    simp only [progOk, inB, Bool.and_eq_true, decide_eq_true_eq] at hp'
    have hrep : List.replicate (Int.toNat p.cells) [C.int 0] = (List.replicate p.cells.toNat (0 : Int)).map encInt := by rw [List.map_replicate]
    have hl : 0 ≤ p.cells ∧ p.cells ≤ p.cells ∧ p.cells * 8 ≤ (LIM : Int) ∧ 0 < 1 := by unfold LIM; omega
    simp only [cV, Option.bind_some, tOne, tOwn, tRes, id, Bool.not_true, cond_false, cond_true, if_pos hl, hrep, cells?_one, List.length_cons, List.length_nil, List.head?_cons, asBool_bool, if_true]
    refine (iter_fold (h := hsStart_5) p.codes (fun i (a : List Thread) f => f (i : Int) p.cells none (p.codes.map (encCode false)) (some true) [] (some true) [] none ((List.replicate p.cells.toNat (0 : Int)).map encInt) none (a.map (encTh true))) (fun a _ => a ++ [⟨0, [0, 0, 0, 0], []⟩]) (fun a => fr false 1 [.agg (encMa true ⟨List.replicate p.cells.toNat 0, a⟩), .one (.bool true)]) (fun i a => a.length = i) (by omega) ?_ ?_ [] rfl).trans ?_
    · intro nx a ha; simp [-List.map_replicate, RsStart_5]
    · intro nx i a hi ha hW
      refine ⟨by simp [ha], ?_⟩
      have hL : (a.length + 1) * 56 ≤ LIM := by unfold LIM; omega
      simp [-List.map_replicate, RsStart_5, hi, hW, hL]
      rfl
    · have hf : ∀ (l : List (List Instr)) (acc : List Thread), l.foldl (fun a _ => a ++ [(⟨0, [0, 0, 0, 0], []⟩ : Thread)]) acc = acc ++ l.map fun _ => ⟨0, [0, 0, 0, 0], []⟩ := by
        intro l
        induction l with
        | nil => simp
        | cons x l ih => intro acc; simp [ih]
      rw [hf]
      simp [-List.map_replicate, -List.map_map, startM]
theorem take0_some {s : Nat} {n : Int} (h : ¬ take0 s n < 0) (hn : 0 ≤ n) : (s : Int) ≤ n ∧ take0 s n = n - s := by
  unfold take0 at h ⊢
  split
  · exact ⟨by assumption, rfl⟩
  · rename_i e; rw [if_neg e] at h; omega
theorem runM_bT (p : Prog) (mvs : List Move) : (runM p mvs).1.cells.length ≤ 16 ∧ (runM p mvs).1.ths.length ≤ 3 ∧ ∀ t ∈ (runM p mvs).1.ths, t.vals.length = 4 ∧ t.buf.length ≤ 3 := by
  unfold runM
  cases hp : progOk p
  · simp
  · by_cases hl : mvs.length > 300
    · simp [hl]
    · have key : ∀ (l : List Move) (a : Machine × Nat), isMa p a.1 = true → isMa p (l.foldl (runF p) a).1 = true := by
        intro l
        induction l with
        | nil => intro a ha; exact ha
        | cons mv l ih =>
          intro a ha
          rw [List.foldl_cons]
          refine ih _ ?_
          cases hcan : canMv p a.1 mv.t mv.drain
          · simpa only [runF, hcan, cond_false] using ha
          · simp only [runF, hcan, cond_true]; exact isMa_mv hp ha hcan
      simp only [Bool.not_true, hl, decide_false, Bool.or_self, cond_false]
      exact isMa_bT hp (key mvs _ (isMa_start hp))
theorem thsN_le {l : List Thread} (h : ∀ t ∈ l, t.vals.length = 4 ∧ t.buf.length ≤ 3) : thsN l ≤ 11 * l.length := by
  induction l with
  | nil => simp [thsN]
  | cons t l ih =>
    have h1 := h t (by simp)
    have h2 := ih fun x hx => h x (by simp [hx])
    simp only [thsN, thN, List.length_cons]
    omega
end Go.Proofs.Gh.Gm
set_option linter.unusedVariables false
set_option linter.unusedSimpArgs false
set_option maxRecDepth 100000
set_option maxHeartbeats 2000000
namespace Go.Proofs.Gh.Gm
def tys_d1 : List (Nat × TI) := [(3, ⟨false, 8, [.int .i64], [.int 0], .scalar, false, none⟩),
  (4, ⟨false, 1, [.bool], [.bool false], .scalar, false, none⟩),
  (5, ⟨false, 1, [.int .u8], [.v (.int .u8 0)], .scalar, false, none⟩),
  (23, ⟨false, 24, [.sl 1], [.sl true (some true) 1 []], .slice 3, false, none⟩),
  (38, ⟨false, 24, [.sl 1], [.sl true (some true) 1 []], .slice 5, false, none⟩),
  (71, ⟨true, 24, [.sl 1], [.sl true (some true) 1 []], .struct [(0, 1, false)], false, none⟩),
  (112, ⟨false, 8, [.other], [.v (Value.pointer none)], .scalar, false, none⟩),
  (168, ⟨true, 40, [.sl 1, .int .i64, .int .i64], [.sl true (some true) 1 [], .int 0, .int 0], .struct [(0, 1, false), (1, 1, false), (2, 1, false)], false, none⟩)]
theorem tys_d1_eq : tys_d1.map (fun x => tiOf Go.Proofs.Try.prog x.1 x.2.cks) = tys_d1.map fun x => some x.2 := by kernel_rfl
@[simp] theorem one?_one (c : C) : S.one? (.one c) = some c := rfl
@[simp] theorem asCur_bx (n : Nat) (nl : Option Bool) (es : List (List C)) (a b : Int) : C.asCur n (.bx [.sl false nl n es, .v (.int .i64 a), .v (.int .i64 b)]) = some (nl, es, a, b) := by simp [C.asCur]
attribute [simp] both_self
/-- Both ways, and word for word alike. -/
noncomputable def dup (x : Option Res) : Option Res := both x x
@[simp] theorem dup_eq (x : Option Res) : dup x = x := both_self x
/-- It yields something of that kind. -/
def Ok (x : Option Res) (Q : Res → Prop) : Prop := ∃ r, x = some r ∧ Q r
theorem ok_let {α : Type} {v : α} {e : α → Option Res} {Q : Res → Prop} (h : ∀ q, q = v → Ok (e q) Q) : Ok (let q := v; e q) Q := h v rfl
theorem ok_eq {x : Option Res} {Q : Res → Prop} {r : Res} (h : x = some r) (hQ : Q r) : Ok x Q := ⟨r, h, hQ⟩
theorem ok_of {x y : Option Res} {Q : Res → Prop} (h : x = y) (hy : Ok y Q) : Ok x Q := h ▸ hy
theorem iter_ex {h : Sh} {fb : h.K → h.K} {A : Type} (n : Nat) (ev : Nat → A → h.K → Option Res) (I : Nat → A → Prop) (Q : Res → Prop) (hn : n < 4611686018427387904)
    (h0 : ∀ nx a, I n a → Ok (ev n a (fb nx)) Q)
    (h1 : ∀ nx i a, i < n → I i a → W ((i : Int) + 1) = (i : Int) + 1 → (∃ a', I (i + 1) a' ∧ ev i a (fb nx) = ev (i + 1) a' nx) ∨ Ok (ev i a (fb nx)) Q) :
    ∀ a, I 0 a → Ok (ev 0 a (iterC fb FUEL)) Q := by
  have key : ∀ (j i : Nat) (a : A), n < i + j → i ≤ n → I i a → Ok (ev i a (iterC fb j)) Q := by
    intro j
    induction j with
    | zero => intro i a h1 h2; omega
    | succ j ih =>
      intro i a hj hi hI
      rw [iterC_succ]
      by_cases e : i = n
      · subst e; exact h0 _ _ hI
      · rcases h1 (iterC fb j) i a (by omega) hI (W_eq (by omega) (by omega)) with ⟨a', hI', e1⟩ | h
        · rw [e1]; exact ih (i + 1) a' (by omega) (by omega) hI'
        · exact h
  intro a hI
  exact key FUEL 0 a (by rw [FUEL_eq]; omega) (Nat.zero_le _) hI
theorem iter_ok {h : Sh} {fb : h.K → h.K} {A : Type} (n : Nat) (ev : Nat → A → h.K → Option Res) (I : Nat → A → Prop) (Q : Res → Prop) (hn : n < 4611686018427387904)
    (h0 : ∀ nx a, I n a → Ok (ev n a (fb nx)) Q)
    (h1 : ∀ nx i a, i < n → I i a → W ((i : Int) + 1) = ((i + 1 : Nat) : Int) → (∀ a', I (i + 1) a' → Ok (ev (i + 1) a' nx) Q) → Ok (ev i a (fb nx)) Q) :
    ∀ a, I 0 a → Ok (ev 0 a (iterC fb FUEL)) Q := by
  have key : ∀ (j i : Nat) (a : A), n < i + j → i ≤ n → I i a → Ok (ev i a (iterC fb j)) Q := by
    intro j
    induction j with
    | zero => intro i a h1 h2; omega
    | succ j ih =>
      intro i a hj hi hI
      rw [iterC_succ]
      by_cases e : i = n
      · subst e; exact h0 _ _ hI
      · exact h1 (iterC fb j) i a (by omega) hI (by rw [W_eq (by omega) (by omega)]; omega) fun a' hI' => ih (i + 1) a' (by omega) (by omega) hI'
  intro a hI
  exact key FUEL 0 a (by rw [FUEL_eq]; omega) (Nat.zero_le _) hI
/-- A draw's cursor. -/
structure Cu where
  o : Option Bool
  bs : List Int
  i : Int
  h : Int
abbrev encB (n : Int) : List C := [.v (.int .u8 n)]
abbrev encCu (c : Cu) : C := .bx [.sl false c.o 1 (c.bs.map encB), .int c.i, .int c.h]
def cuOk (c : Cu) : Prop := 0 ≤ c.i ∧ c.bs.length ≤ 1099511627776
theorem and255 (a : Int) : ∃ x : Nat, x ≤ 255 ∧ W (((BitVec.ofInt (IntKind.bits .i64) a &&& BitVec.ofInt (IntKind.bits .i64) 255).toNat : Int)) = (x : Int) := by
  have h : (BitVec.ofInt (IntKind.bits .i64) a &&& BitVec.ofInt (IntKind.bits .i64) 255).toNat ≤ 255 := by
    rw [BitVec.toNat_and]
    exact Nat.le_trans Nat.and_le_right (by decide)
  exact ⟨_, h, W_eq (by omega) (by omega)⟩
/-! sl01New: loop.example/g00712/spec.l01New -/
@[reducible] def hsl01New_3 : Sh := ⟨[.one (.o (.sl false 1)), .one (.o (.i .i64)), .one (.o (.i .i64))], []⟩
@[reducible] def xsl01New_3 : List (Ex × Sh) := [(.exit 0, ⟨[.one (.o (.sl false 1)), .one (.o (.i .i64))], []⟩)]
noncomputable def Rsl01New_3 : KC xsl01New_3 (hsl01New_3.K → hsl01New_3.K) := fun k0 nx v1 v2 v3 v4 => bif decide (v4 < (v2.length : Int)) then bif decide (v4 < 4000) then ix v4 v2 ((v2[Int.toNat v4]?).bind fun w1 => tRo [.int .u8] w1 fun n1 => nx v1 v2 (W (((BitVec.ofInt (IntKind.bits .i64) (W ((W ((W (v3 * 149)) + (W (n1)))) + 11)) &&& BitVec.ofInt (IntKind.bits .i64) 1073741823).toNat : Int))) (W (v4 + 1))) else k0 v1 v2 v3 else k0 v1 v2 v3
noncomputable def Lsl01New_3 : Lp := ⟨3, [0, 3, 4], [0, 3], 0, 32, hsl01New_3, xsl01New_3, Rsl01New_3⟩
noncomputable def Qsl01New : Fx := ⟨Go.Proofs.Try.f97, [.ro], true, mkEnv tys_d1 [] [], fun _ => .stop, [Lsl01New_3]⟩
noncomputable def Fsl01New : List S → Option Res := veil Qsl01New.run
noncomputable def Ssl01New : Spec := ⟨[.ro], true, Fsl01New⟩
theorem msl01New (x1 : Option Bool) (x2 : List (List C)) : Fsl01New [.one (.sl false x1 1 x2)] = iterC (Rsl01New_3 (fun y1 y2 y3 => fr true 1 [.one (.bx [.sl false none 1 y2, .int 0, .int y3])])) FUEL x1 x2 (W (712712 + (x2.length : Int))) 0 := Fx.eq (by kernel_rfl)
theorem stsl01New_3 : Lsl01New_3.Step Qsl01New.E Qsl01New.dr Qsl01New.lp ((findLoop 3 Qsl01New.code).getD .skip) := fun k nx v => by kernel_rfl
theorem oksl01New : CalleeOk Go.Proofs.Try.prog 97 Ssl01New := Fx.ok (F := Qsl01New) follows (envTy_mk tys_d1_eq) (envSpec_of (specsOk_nil)) Go.Proofs.Try.func97 (by kernel_rfl) (by kernel_rfl) (by
  rw [show subs Qsl01New.code = [(findLoop 3 Qsl01New.code).getD .skip] by kernel_rfl]
  exact ⟨stepAt_some (by kernel_rfl) stsl01New_3, trivial⟩) (by kernel_rfl) (by kernel_rfl) rfl
theorem dNew (o : Option Bool) (bs : List Int) (h : bs.length ≤ 1099511627776) : ∃ c', Fsl01New [.one (.sl false o 1 (bs.map encB))] = some (.one (encCu c'), [.one .unk]) ∧ cuOk c' := by
  have key : Ok (Fsl01New [.one (.sl false o 1 (bs.map encB))]) (fun r => ∃ c', r = (.one (encCu c'), [.one .unk]) ∧ cuOk c') := by
    rw [msl01New]
    refine iter_ex (h := hsl01New_3) bs.length (fun i (a : Int) f => f o (bs.map encB) a (i : Int)) (fun _ _ => True) _ (by omega) ?_ ?_ _ trivial
    · intro nx a _
      exact ok_eq (r := (.one (encCu ⟨none, bs, 0, a⟩), [.one .unk])) (by simp [Rsl01New_3]) ⟨⟨none, bs, 0, a⟩, rfl, by simp [cuOk, h]⟩
    · intro nx i a hi _ hW
      by_cases h4 : (i : Int) < 4000
      · refine .inl ?_
        simp [Rsl01New_3, hi, hW, h4]
        exact ⟨_, rfl⟩
      · exact .inr (ok_eq (r := (.one (encCu ⟨none, bs, 0, a⟩), [.one .unk])) (by simp [Rsl01New_3, hi, h4]) ⟨⟨none, bs, 0, a⟩, rfl, by simp [cuOk, h]⟩)
  obtain ⟨r, h1, c', rfl, h2⟩ := key
  exact ⟨c', h1, h2⟩
/-! sl01Byte: loop.example/g00712/spec.l01Byte -/
noncomputable def Qsl01Byte : Fx := ⟨Go.Proofs.Try.f169, [.io], true, mkEnv tys_d1 [] [], fun id => bif Nat.beq id 2 then .sq [0, 1, 2, 3, 4, 5, 6, 7, 8, 9, 10, 11, 12] .stop else bif Nat.beq id 3 then .sq [0, 1, 2, 3, 4, 5, 6, 7, 8, 9] .stop else bif Nat.beq id 4 then .sq [0, 1, 2, 3, 4, 5, 6, 7, 8, 9, 10, 11, 12, 13, 14] .stop else .stop, []⟩
noncomputable def Fsl01Byte : List S → Option Res := veil Qsl01Byte.run
noncomputable def Ssl01Byte : Spec := ⟨[.io], true, Fsl01Byte⟩
theorem msl01Byte (x1 : Option Bool) (x2 : List (List C)) (x3 : Int) (x4 : Int) : Fsl01Byte [.one (.bx [.sl false x1 1 x2, .int x3, .int x4])] = (let q1 : Int → Int → Option Res := fun z1 z2 => fin true [.one (.bx [.sl false x1 1 x2, .int x3, .int x4])] [.one (.int z1)] [.one (.bx [.sl false x1 1 x2, .int z2, .int (W ((W (x4 * 6364136223846793005)) + 1442695040888963407))])]; bif decide (x3 < (x2.length : Int)) then ix x3 x2 ((x2[Int.toNat x3]?).bind fun w1 => tRo [.int .u8] w1 fun n1 => q1 (W (((BitVec.ofInt (IntKind.bits .i64) (W ((W (((BitVec.ofInt (IntKind.bits .i64) (W (((BitVec.ofInt (IntKind.bits .i64) (Int.fdiv (W ((W (x4 * 6364136223846793005)) + 1442695040888963407)) (2 ^ 33)) ^^^ BitVec.ofInt (IntKind.bits .i64) (Int.fdiv (W ((W (x4 * 6364136223846793005)) + 1442695040888963407)) (2 ^ 45))).toNat : Int))) &&& BitVec.ofInt (IntKind.bits .i64) 255).toNat : Int))) + (W (n1)))) &&& BitVec.ofInt (IntKind.bits .i64) 255).toNat : Int))) (W (x3 + 1))) else q1 (W (((BitVec.ofInt (IntKind.bits .i64) (W (((BitVec.ofInt (IntKind.bits .i64) (Int.fdiv (W ((W (x4 * 6364136223846793005)) + 1442695040888963407)) (2 ^ 33)) ^^^ BitVec.ofInt (IntKind.bits .i64) (Int.fdiv (W ((W (x4 * 6364136223846793005)) + 1442695040888963407)) (2 ^ 45))).toNat : Int))) &&& BitVec.ofInt (IntKind.bits .i64) 255).toNat : Int))) x3) := Fx.eq (by kernel_rfl)
theorem oksl01Byte : CalleeOk Go.Proofs.Try.prog 169 Ssl01Byte := Fx.ok (F := Qsl01Byte) follows (envTy_mk tys_d1_eq) (envSpec_of (specsOk_nil)) Go.Proofs.Try.func169 (by kernel_rfl) (by kernel_rfl) (by rw [show subs Qsl01Byte.code = [] by kernel_rfl]; trivial) (by kernel_rfl) (by kernel_rfl) rfl
theorem dByte (c : Cu) (hc : cuOk c) : ∃ x c', Fsl01Byte [.one (encCu c)] = some (.one (.int x), [.one (encCu c')]) ∧ cuOk c' ∧ 0 ≤ x ∧ x ≤ 255 := by
  obtain ⟨o, bs, i, h⟩ := c
  obtain ⟨h1, h2⟩ := hc
  simp only at h1 h2
  obtain ⟨k, rfl⟩ := Int.eq_ofNat_of_zero_le h1
  simp only [encCu]
  have hm := msl01Byte o (bs.map encB) (k : Int) h
  by_cases hk : k < bs.length
  · have hW : W ((k : Int) + 1) = (k : Int) + 1 := W_eq (by omega) (by omega)
    simp only [List.length_map, Int.ofNat_lt, hk, decide_true, cond_true, List.getElem?_map, Int.toNat_natCast, List.getElem?_eq_getElem hk, Option.map_some, Option.bind_some, ix_map hk, tRo, List.head?_cons, C.asInt, if_true, List.tail_cons, hW] at hm
    obtain ⟨x, hx, e⟩ := and255 (W (W (((BitVec.ofInt (IntKind.bits .i64) (W (((BitVec.ofInt (IntKind.bits .i64) (Int.fdiv (W ((W (h * 6364136223846793005)) + 1442695040888963407)) (2 ^ 33)) ^^^ BitVec.ofInt (IntKind.bits .i64) (Int.fdiv (W ((W (h * 6364136223846793005)) + 1442695040888963407)) (2 ^ 45))).toNat : Int))) &&& BitVec.ofInt (IntKind.bits .i64) 255).toNat : Int)) + W bs[k]))
    rw [e] at hm
    exact ⟨x, ⟨o, bs, (k : Int) + 1, _⟩, hm.trans (by simp; rfl), ⟨by simp only; omega, h2⟩, by omega, by omega⟩
  · simp only [List.length_map, Int.ofNat_lt, hk, decide_false, cond_false] at hm
    obtain ⟨x, hx, e⟩ := and255 (W (((BitVec.ofInt (IntKind.bits .i64) (Int.fdiv (W ((W (h * 6364136223846793005)) + 1442695040888963407)) (2 ^ 33)) ^^^ BitVec.ofInt (IntKind.bits .i64) (Int.fdiv (W ((W (h * 6364136223846793005)) + 1442695040888963407)) (2 ^ 45))).toNat : Int)))
    rw [e] at hm
    exact ⟨x, ⟨o, bs, (k : Int), _⟩, hm.trans (by simp; rfl), ⟨h1, h2⟩, by omega, by omega⟩
/-! sl01Below: loop.example/g00712/spec.l01Below -/
noncomputable def Qsl01Below : Fx := ⟨Go.Proofs.Try.f128, [.io, .ro], true, mkEnv tys_d1 [(169, Ssl01Byte)] [(169, [.cub 1])], fun _ => .stop, []⟩
noncomputable def Fsl01Below : List S → Option Res := veil Qsl01Below.run
noncomputable def Ssl01Below : Spec := ⟨[.io, .ro], true, Fsl01Below⟩
theorem msl01Below (x1 : Option Bool) (x2 : List (List C)) (x3 : Int) (x4 : Int) (x5 : Int) : Fsl01Below [.one (.bx [.sl false x1 1 x2, .int x3, .int x4]), .one (.int x5)] = bif decide (x5 ≤ 0) then fin true [.one (.bx [.sl false x1 1 x2, .int x3, .int x4]), .one (.int x5)] [.one (.int 0)] [.one (.bx [.sl false x1 1 x2, .int x3, .int x4]), .one .unk] else bif decide (x5 ≤ 256) then cOV [.cub 1] false [.int .i64] (Fsl01Byte [.one (.bx [.sl false x1 1 x2, .int x3, .int x4])]) fun o1 l1 n1 n2 n3 => if x5 = 0 then none else fin true [.one (.bx [.sl false x1 1 x2, .int x3, .int x4]), .one (.int x5)] [.one (.int (Int.tmod n3 x5))] [.one (.bx [.sl false o1 1 l1, .int n1, .int n2]), .one .unk] else cOV [.cub 1] false [.int .i64] (Fsl01Byte [.one (.bx [.sl false x1 1 x2, .int x3, .int x4])]) fun o2 l2 n4 n5 n6 => cOV [.cub 1] false [.int .i64] (Fsl01Byte [.one (.bx [.sl false o2 1 l2, .int n4, .int n5])]) fun o3 l3 n7 n8 n9 => cOV [.cub 1] false [.int .i64] (Fsl01Byte [.one (.bx [.sl false o3 1 l3, .int n7, .int n8])]) fun o4 l4 n10 n11 n12 => if x5 = 0 then none else fin true [.one (.bx [.sl false x1 1 x2, .int x3, .int x4]), .one (.int x5)] [.one (.int (Int.tmod (W ((W ((W (n6 * 65536)) + (W (n9 * 256)))) + n12)) x5))] [.one (.bx [.sl false o4 1 l4, .int n10, .int n11]), .one .unk] := Fx.eq (by kernel_rfl)
theorem oksl01Below : CalleeOk Go.Proofs.Try.prog 128 Ssl01Below := Fx.ok (F := Qsl01Below) follows (envTy_mk tys_d1_eq) (envSpec_of (specsOk_cons oksl01Byte specsOk_nil)) Go.Proofs.Try.func128 (by kernel_rfl) (by kernel_rfl) (by rw [show subs Qsl01Below.code = [] by kernel_rfl]; trivial) (by kernel_rfl) (by kernel_rfl) rfl
theorem dBelow (c : Cu) (n : Int) (hc : cuOk c) : ∃ x c', Fsl01Below [.one (encCu c), .one (.int n)] = some (.one (.int x), [.one (encCu c'), .one .unk]) ∧ cuOk c' ∧ 0 ≤ x ∧ (0 < n → x < n) := by
  have hm := msl01Below c.o (c.bs.map encB) c.i c.h n
  by_cases h0 : n ≤ 0
  · exact ⟨0, c, hm.trans (by simp [h0]), hc, by omega, by omega⟩
  · obtain ⟨x, c1, e1, hc1, hx0, hx1⟩ := dByte c hc
    have hn : ¬ n = 0 := by omega
    by_cases h1 : n ≤ 256
    · exact ⟨x.tmod n, c1, hm.trans (by simp [h0, h1, hn, e1]), hc1, Int.tmod_nonneg _ hx0, fun h => Int.tmod_lt_of_pos _ h⟩
    · obtain ⟨y, c2, e2, hc2, hy0, hy1⟩ := dByte c1 hc1
      obtain ⟨z, c3, e3, hc3, hz0, hz1⟩ := dByte c2 hc2
      have w1 : W (x * 65536) = x * 65536 := W_eq (by omega) (by omega)
      have w2 : W (y * 256) = y * 256 := W_eq (by omega) (by omega)
      have w3 : W (x * 65536 + y * 256) = x * 65536 + y * 256 := W_eq (by omega) (by omega)
      have w4 : W (x * 65536 + y * 256 + z) = x * 65536 + y * 256 + z := W_eq (by omega) (by omega)
      exact ⟨(x * 65536 + y * 256 + z).tmod n, c3, hm.trans (by simp [h0, h1, hn, e1, e2, e3, w1, w2, w3, w4]), hc3, Int.tmod_nonneg _ (by omega), fun h => Int.tmod_lt_of_pos _ h⟩
theorem ok_below {c : Cu} {n : Int} {k : Option Bool → List (List C) → Int → Int → Int → Option Res} {Q : Res → Prop} (hc : cuOk c) (h : ∀ x c', cuOk c' → 0 ≤ x → (0 < n → x < n) → Ok (k c'.o (c'.bs.map encB) c'.i c'.h x) Q) :
    Ok (cOV [.cub 1] false [.int .i64] (Fsl01Below [.one (.bx [.sl false c.o 1 (c.bs.map encB), .int c.i, .int c.h]), .one (.int n)]) k) Q := by
  obtain ⟨x, c', e, h1, h2, h3⟩ := dBelow c n hc
  exact ok_of (by simp [e]) (h x c' h1 h2 h3)
/-! sl01Once: loop.example/g00712/spec.l01Once -/
noncomputable def Qsl01Once : Fx := ⟨Go.Proofs.Try.f100, [.io, .ro], true, mkEnv tys_d1 [(128, Ssl01Below)] [(128, [.cub 1])], fun _ => .stop, []⟩
noncomputable def Fsl01Once : List S → Option Res := veil Qsl01Once.run
noncomputable def Ssl01Once : Spec := ⟨[.io, .ro], true, Fsl01Once⟩
theorem msl01Once (x1 : Option Bool) (x2 : List (List C)) (x3 : Int) (x4 : Int) (x5 : Int) : Fsl01Once [.one (.bx [.sl false x1 1 x2, .int x3, .int x4]), .one (.int x5)] = cOV [.cub 1] false [.int .i64] (Fsl01Below [.one (.bx [.sl false x1 1 x2, .int x3, .int x4]), .one (.int x5)]) fun o1 l1 n1 n2 n3 => fin true [.one (.bx [.sl false x1 1 x2, .int x3, .int x4]), .one (.int x5)] [.one (.bool (n3 == 0))] [.one (.bx [.sl false o1 1 l1, .int n1, .int n2]), .one .unk] := Fx.eq (by kernel_rfl)
theorem oksl01Once : CalleeOk Go.Proofs.Try.prog 100 Ssl01Once := Fx.ok (F := Qsl01Once) follows (envTy_mk tys_d1_eq) (envSpec_of (specsOk_cons oksl01Below specsOk_nil)) Go.Proofs.Try.func100 (by kernel_rfl) (by kernel_rfl) (by rw [show subs Qsl01Once.code = [] by kernel_rfl]; trivial) (by kernel_rfl) (by kernel_rfl) rfl
theorem dOnce (c : Cu) (n : Int) (hc : cuOk c) : ∃ b c', Fsl01Once [.one (encCu c), .one (.int n)] = some (.one (.bool b), [.one (encCu c'), .one .unk]) ∧ cuOk c' := by
  have hm := msl01Once c.o (c.bs.map encB) c.i c.h n
  obtain ⟨x, c1, e1, hc1, _⟩ := dBelow c n hc
  exact ⟨x == 0, c1, hm.trans (by simp [e1]), hc1⟩
theorem ok_once {c : Cu} {n : Int} {k : Option Bool → List (List C) → Int → Int → Bool → Option Res} {Q : Res → Prop} (hc : cuOk c) (h : ∀ b c', cuOk c' → Ok (k c'.o (c'.bs.map encB) c'.i c'.h b) Q) :
    Ok (cOV [.cub 1] false [.bool] (Fsl01Once [.one (.bx [.sl false c.o 1 (c.bs.map encB), .int c.i, .int c.h]), .one (.int n)]) k) Q := by
  obtain ⟨x, c', e, h1⟩ := dOnce c n hc
  exact ok_of (by simp [e]) (h x c' h1)
/-! sl01PickInt: loop.example/g00712/spec.l01PickInt -/
noncomputable def Qsl01PickInt : Fx := ⟨Go.Proofs.Try.f149, [.io, .tk], true, mkEnv tys_d1 [(128, Ssl01Below)] [(128, [.cub 1])], fun _ => .stop, []⟩
noncomputable def Fsl01PickInt : List S → Option Res := veil Qsl01PickInt.run
noncomputable def Ssl01PickInt : Spec := ⟨[.io, .tk], true, Fsl01PickInt⟩
theorem msl01PickInt (x1 : Option Bool) (x2 : List (List C)) (x3 : Int) (x4 : Int) (x5 : Option Bool) (x6 : List (List C)) : Fsl01PickInt [.one (.bx [.sl false x1 1 x2, .int x3, .int x4]), .one (.sl true x5 1 x6)] = cOV [.cub 1] false [.int .i64] (Fsl01Below [.one (.bx [.sl false x1 1 x2, .int x3, .int x4]), .one (.int (x6.length : Int))]) fun o1 l1 n1 n2 n3 => ix n3 x6 ((x6[Int.toNat n3]?).bind fun w1 => tOwn [.int .i64] w1 fun n4 => fin true [.one (.bx [.sl false x1 1 x2, .int x3, .int x4]), .one (.sl true x5 1 x6)] [.one (.int n4)] [.one (.bx [.sl false o1 1 l1, .int n1, .int n2]), .one .unk]) := Fx.eq (by kernel_rfl)
theorem oksl01PickInt : CalleeOk Go.Proofs.Try.prog 149 Ssl01PickInt := Fx.ok (F := Qsl01PickInt) follows (envTy_mk tys_d1_eq) (envSpec_of (specsOk_cons oksl01Below specsOk_nil)) Go.Proofs.Try.func149 (by kernel_rfl) (by kernel_rfl) (by rw [show subs Qsl01PickInt.code = [] by kernel_rfl]; trivial) (by kernel_rfl) (by kernel_rfl) rfl
theorem dPick (c : Cu) (nl : Option Bool) (l : List Int) (hc : cuOk c) (hl : l ≠ []) : ∃ x c', Fsl01PickInt [.one (encCu c), .one (.sl true nl 1 (l.map encInt))] = some (.one (.int x), [.one (encCu c'), .one .unk]) ∧ cuOk c' ∧ x ∈ l := by
  have hm := msl01PickInt c.o (c.bs.map encB) c.i c.h nl (l.map encInt)
  obtain ⟨x, c1, e1, hc1, h0, h1⟩ := dBelow c (l.length : Int) hc
  have hp : 0 < l.length := List.length_pos_iff.2 hl
  obtain ⟨k, rfl⟩ := Int.eq_ofNat_of_zero_le h0
  have hk : k < l.length := by have := h1 (by omega); omega
  exact ⟨l[k], c1, hm.trans (by simp [e1, hk]), hc1, List.getElem_mem hk⟩
theorem ok_pick {c : Cu} {nl : Option Bool} {l : List Int} {es : List (List C)} {k : Option Bool → List (List C) → Int → Int → Int → Option Res} {Q : Res → Prop} (hc : cuOk c) (he : es = l.map encInt) (hl : l ≠ []) (h : ∀ x c', cuOk c' → x ∈ l → Ok (k c'.o (c'.bs.map encB) c'.i c'.h x) Q) :
    Ok (cOV [.cub 1] false [.int .i64] (Fsl01PickInt [.one (.bx [.sl false c.o 1 (c.bs.map encB), .int c.i, .int c.h]), .one (.sl true nl 1 es)]) k) Q := by
  subst he
  obtain ⟨x, c', e, h1, h2⟩ := dPick c nl l hc hl
  exact ok_of (by simp [e]) (h x c' h1 h2)
/-! sl01DrawValue: loop.example/g00712/spec.l01DrawValue -/
noncomputable def Qsl01DrawValue : Fx := ⟨Go.Proofs.Try.f190, [.io], true, mkEnv tys_d1 [(128, Ssl01Below), (149, Ssl01PickInt)] [(128, [.cub 1]), (149, [.cub 1])], fun _ => .stop, []⟩
noncomputable def Fsl01DrawValue : List S → Option Res := veil Qsl01DrawValue.run
noncomputable def Ssl01DrawValue : Spec := ⟨[.io], true, Fsl01DrawValue⟩
theorem msl01DrawValue (x1 : Option Bool) (x2 : List (List C)) (x3 : Int) (x4 : Int) : Fsl01DrawValue [.one (.bx [.sl false x1 1 x2, .int x3, .int x4])] = cOV [.cub 1] false [.int .i64] (Fsl01Below [.one (.bx [.sl false x1 1 x2, .int x3, .int x4]), .one (.int 50)]) fun o1 l1 n1 n2 n3 => cOV [.cub 1] false [.int .i64] (Fsl01Below [.one (.bx [.sl false o1 1 l1, .int n1, .int n2]), .one (.int 50)]) fun o2 l2 n4 n5 n6 => cOV [.cub 1] false [.int .i64] (Fsl01PickInt [.one (.bx [.sl false o2 1 l2, .int n4, .int n5]), .one (.sl true (some false) 1 [[.int 0], [.int 1], [.int 2], [.int (-1)], [.int n3], [.int (W (0 - n6))], [.int 1000000], [.int (-1000000)]])]) fun o3 l3 n7 n8 n9 => fin true [.one (.bx [.sl false x1 1 x2, .int x3, .int x4])] [.one (.int n9)] [.one (.bx [.sl false o3 1 l3, .int n7, .int n8])] := Fx.eq (by kernel_rfl)
theorem oksl01DrawValue : CalleeOk Go.Proofs.Try.prog 190 Ssl01DrawValue := Fx.ok (F := Qsl01DrawValue) follows (envTy_mk tys_d1_eq) (envSpec_of (specsOk_cons oksl01Below (specsOk_cons oksl01PickInt specsOk_nil))) Go.Proofs.Try.func190 (by kernel_rfl) (by kernel_rfl) (by rw [show subs Qsl01DrawValue.code = [] by kernel_rfl]; trivial) (by kernel_rfl) (by kernel_rfl) rfl
theorem dValue (c : Cu) (hc : cuOk c) : ∃ x c', Fsl01DrawValue [.one (encCu c)] = some (.one (.int x), [.one (encCu c')]) ∧ cuOk c' ∧ -1000000 ≤ x ∧ x ≤ 1000000 := by
  have key : Ok (Fsl01DrawValue [.one (encCu c)]) (fun r => ∃ x c', r = (.one (.int x), [.one (encCu c')]) ∧ cuOk c' ∧ -1000000 ≤ x ∧ x ≤ 1000000) := by
    rw [msl01DrawValue]
    refine ok_below hc fun x c1 hc1 hx hx' => ok_below hc1 fun y c2 hc2 hy hy' => ok_pick (l := [0, 1, 2, -1, x, W (0 - y), 1000000, -1000000]) hc2 rfl (by simp) fun z c3 hc3 hz => ?_
    have w : W (0 - y) = -y := by have := hy' (by omega); rw [W_eq (by omega) (by omega)]; omega
    have := hx' (by omega)
    have := hy' (by omega)
    have w' : W (-y) = -y := W_eq (by omega) (by omega)
    simp [w, w'] at hz
    exact ok_eq (r := (.one (.int z), [.one (encCu c3)])) (by simp) ⟨z, c3, rfl, hc3, by omega, by omega⟩
  obtain ⟨r, h1, x, c', rfl, h2⟩ := key
  exact ⟨x, c', h1, h2⟩
theorem ok_value {c : Cu} {k : Option Bool → List (List C) → Int → Int → Int → Option Res} {Q : Res → Prop} (hc : cuOk c) (h : ∀ x c', cuOk c' → -1000000 ≤ x → x ≤ 1000000 → Ok (k c'.o (c'.bs.map encB) c'.i c'.h x) Q) :
    Ok (cOV [.cub 1] false [.int .i64] (Fsl01DrawValue [.one (.bx [.sl false c.o 1 (c.bs.map encB), .int c.i, .int c.h])]) k) Q := by
  obtain ⟨x, c', e, h1, h2, h3⟩ := dValue c hc
  exact ok_of (by simp [e]) (h x c' h1 h2 h3)
/-! sl01DrawMem: loop.example/g00712/spec.l01DrawMem -/
@[reducible] def hsl01DrawMem_6 : Sh := ⟨[.one (.o (.pl 0 0 [])), .one (.o (.pl 1 0 [])), .one (.o (.pl 3 0 [])), .one (.o (.i .i64)), .one (.o (.i .i64))], [(false, [.o (.sl false 1), .o (.i .i64), .o (.i .i64)]), (false, [.o (.sl true 1)]), (true, [.o .u]), (false, [.o (.sl true 1)])]⟩
@[reducible] def xsl01DrawMem_6 : List (Ex × Sh) := [(.exit 0, ⟨[.one (.o (.pl 0 0 [])), .one (.o (.pl 1 0 [])), .one (.o (.pl 3 0 [])), .one (.o (.i .i64))], [(false, [.o (.sl false 1), .o (.i .i64), .o (.i .i64)]), (false, [.o (.sl true 1)]), (true, [.o .u]), (false, [.o (.sl true 1)])]⟩)]
noncomputable def Rsl01DrawMem_6 : KC xsl01DrawMem_6 (hsl01DrawMem_6.K → hsl01DrawMem_6.K) := fun k0 nx v1 v2 v3 v4 v5 v6 v7 v8 v9 v10 => bif decide (v2 < v1) then both (cOV [.cub 1] false [.int .i64] (Fsl01DrawValue [.one (.bx [.sl false v3 1 v4, .int v5, .int v6])]) fun o2 l2 n4 n5 n6 => if (v10.length + 1) * 8 ≤ LIM then nx v1 (W (v2 + 1)) o2 l2 n4 n5 v7 v8 none (v10 ++ [[.int n6]]) else none) (cOV [.cub 1] false [.int .i64] (Fsl01DrawValue [.one (.bx [.sl false v3 1 v4, .int v5, .int v6])]) fun o2 l2 n4 n5 n6 => dup (if (v10.length + 1) * 8 ≤ LIM then nx v1 (W (v2 + 1)) o2 l2 n4 n5 v7 v8 none (v10 ++ [[.int n6]]) else none)) else k0 v1 v3 v4 v5 v6 v7 v8 v9 v10
noncomputable def Lsl01DrawMem_6 : Lp := ⟨6, [0, 4, 5, 6, 7], [0, 4, 5, 6], 4, 45, hsl01DrawMem_6, xsl01DrawMem_6, Rsl01DrawMem_6⟩
noncomputable def Qsl01DrawMem : Fx := ⟨Go.Proofs.Try.f205, [.io, .ro], true, mkEnv tys_d1 [(100, Ssl01Once), (128, Ssl01Below), (149, Ssl01PickInt), (190, Ssl01DrawValue)] [(100, [.cub 1]), (128, [.cub 1]), (149, [.cub 1]), (190, [.cub 1])], fun id => bif Nat.beq id 8 then .ac [1] (.sq [0, 2] (.alt 1 (.sq [3, 4, 5, 6, 7] .stop) (.sq [3] (.alt 1 (.sq [4, 5, 6, 7] .stop) (.sq [4, 1, 5, 6, 7] .stop))))) else bif Nat.beq id 10 then .ac [1] (.sq [0, 2, 3, 5] (.alt 1 (.alt 4 (.sq [6, 7, 8, 9] .stop) (.sq [6, 4, 7, 8, 9] .stop)) (.alt 4 (.alt 1 (.sq [6, 7, 8, 9] .stop) (.sq [6] (.alt 1 (.sq [7, 8, 9] .stop) (.sq [7, 1, 8, 9] .stop)))) (.sq [6] (.alt 1 (.sq [4, 7, 8, 9] .stop) (.sq [4] (.alt 1 (.sq [7, 8, 9] .stop) (.sq [7, 1, 8, 9] .stop)))))))) else .stop, [Lsl01DrawMem_6]⟩
noncomputable def Fsl01DrawMem : List S → Option Res := veil Qsl01DrawMem.run
noncomputable def Ssl01DrawMem : Spec := ⟨[.io, .ro], true, Fsl01DrawMem⟩
theorem msl01DrawMem (x1 : Option Bool) (x2 : List (List C)) (x3 : Int) (x4 : Int) (x5 : Option Bool) (x6 : List (List C)) : Fsl01DrawMem [.one (.bx [.sl false x1 1 x2, .int x3, .int x4]), .one (.sl false x5 1 x6)] = cOV [.cub 1] false [.int .i64] (Fsl01Below [.one (.bx [.sl false x1 1 x2, .int x3, .int x4]), .one (.int 8)]) fun o1 l1 n1 n2 n3 => (let q1 : Int → (Option Bool) → (List (List C)) → Int → Int → Option Res := fun z1 z2 z3 z4 z5 => iterC (Rsl01DrawMem_6 (fun y1 y2 y3 y4 y5 y6 y7 y8 y9 => (let q2 : (List (List C)) → (Option Bool) → (List (List C)) → Int → Int → Option Res := fun z6 z7 z8 z9 z10 => fin true [.one (.bx [.sl false x1 1 x2, .int x3, .int x4]), .one (.sl false x5 1 x6)] [.agg [.sl true none 1 z6]] [.one (.bx [.sl false z7 1 z8, .int z9, .int z10]), .one .unk]; cOV [.cub 1] false [.bool] (Fsl01Once [.one (.bx [.sl false y2 1 y3, .int y4, .int y5]), .one (.int 25)]) fun o2 l2 n4 n5 b1 => bif b1 then bif decide (y1 > 0) then both (dup (cOV [.cub 1] false [.int .i64] (Fsl01Below [.one (.bx [.sl false o2 1 l2, .int n4, .int n5]), .one (.int y1)]) fun o3 l3 n6 n7 n8 => cOV [.cub 1] false [.int .i64] (Fsl01PickInt [.one (.bx [.sl false o3 1 l3, .int n6, .int n7]), .one (.sl true (some false) 1 [[.int 1000001], [.int (-1000001)]])]) fun o4 l4 n9 n10 n11 => ix n8 y9 (oc (.int .i64) y9 (Int.toNat n8) 0 ((let e1 : List (List C) := md y9 (Int.toNat n8) 0 (.int n11); q2 e1 o4 l4 n9 n10))))) (both (cOV [.cub 1] false [.int .i64] (Fsl01Below [.one (.bx [.sl false o2 1 l2, .int n4, .int n5]), .one (.int y1)]) fun o3 l3 n6 n7 n8 => both (cOV [.cub 1] false [.int .i64] (Fsl01PickInt [.one (.bx [.sl false o3 1 l3, .int n6, .int n7]), .one (.sl true (some false) 1 [[.int 1000001], [.int (-1000001)]])]) fun o4 l4 n9 n10 n11 => ix n8 y9 (oc (.int .i64) y9 (Int.toNat n8) 0 ((let e1 : List (List C) := md y9 (Int.toNat n8) 0 (.int n11); q2 e1 o4 l4 n9 n10)))) (dup (cOV [.cub 1] false [.int .i64] (Fsl01PickInt [.one (.bx [.sl false o3 1 l3, .int n6, .int n7]), .one (.sl true (some false) 1 [[.int 1000001], [.int (-1000001)]])]) fun o4 l4 n9 n10 n11 => ix n8 y9 (oc (.int .i64) y9 (Int.toNat n8) 0 ((let e1 : List (List C) := md y9 (Int.toNat n8) 0 (.int n11); q2 e1 o4 l4 n9 n10)))))) (both (cOV [.cub 1] false [.int .i64] (Fsl01Below [.one (.bx [.sl false o2 1 l2, .int n4, .int n5]), .one (.int y1)]) fun o3 l3 n6 n7 n8 => cOV [.cub 1] false [.int .i64] (Fsl01PickInt [.one (.bx [.sl false o3 1 l3, .int n6, .int n7]), .one (.sl true (some false) 1 [[.int 1000001], [.int (-1000001)]])]) fun o4 l4 n9 n10 n11 => ix n8 y9 (oc (.int .i64) y9 (Int.toNat n8) 0 ((let e1 : List (List C) := md y9 (Int.toNat n8) 0 (.int n11); q2 e1 o4 l4 n9 n10)))) (cOV [.cub 1] false [.int .i64] (Fsl01Below [.one (.bx [.sl false o2 1 l2, .int n4, .int n5]), .one (.int y1)]) fun o3 l3 n6 n7 n8 => dup (cOV [.cub 1] false [.int .i64] (Fsl01PickInt [.one (.bx [.sl false o3 1 l3, .int n6, .int n7]), .one (.sl true (some false) 1 [[.int 1000001], [.int (-1000001)]])]) fun o4 l4 n9 n10 n11 => ix n8 y9 (oc (.int .i64) y9 (Int.toNat n8) 0 ((let e1 : List (List C) := md y9 (Int.toNat n8) 0 (.int n11); q2 e1 o4 l4 n9 n10))))))) else q2 y9 o2 l2 n4 n5 else q2 y9 o2 l2 n4 n5))) FUEL z1 0 z2 z3 z4 z5 (some true) [] none []; cOV [.cub 1] false [.bool] (Fsl01Once [.one (.bx [.sl false o1 1 l1, .int n1, .int n2]), .one (.int 12)]) fun o5 l5 n12 n13 b2 => bif b2 then cOV [.cub 1] false [.int .i64] (Fsl01PickInt [.one (.bx [.sl false o5 1 l5, .int n12, .int n13]), .one (.sl true (some false) 1 [[.int 0], [.int 16], [.int 17]])]) fun o6 l6 n14 n15 n16 => q1 n16 o6 l6 n14 n15 else q1 (W (1 + n3)) o5 l5 n12 n13) := Fx.eq (by kernel_rfl)
theorem stsl01DrawMem_6 : Lsl01DrawMem_6.Step Qsl01DrawMem.E Qsl01DrawMem.dr Qsl01DrawMem.lp ((findLoop 6 Qsl01DrawMem.code).getD .skip) := fun k nx v => by kernel_rfl
theorem oksl01DrawMem : CalleeOk Go.Proofs.Try.prog 205 Ssl01DrawMem := Fx.ok (F := Qsl01DrawMem) follows (envTy_mk tys_d1_eq) (envSpec_of (specsOk_cons oksl01Once (specsOk_cons oksl01Below (specsOk_cons oksl01PickInt (specsOk_cons oksl01DrawValue specsOk_nil))))) Go.Proofs.Try.func205 (by kernel_rfl) (by kernel_rfl) (by
  rw [show subs Qsl01DrawMem.code = [(findLoop 6 Qsl01DrawMem.code).getD .skip] by kernel_rfl]
  exact ⟨stepAt_some (by kernel_rfl) stsl01DrawMem_6, trivial⟩) (by kernel_rfl) (by kernel_rfl) rfl
theorem lpDrawMem (n : Nat) (hn : n ≤ 17) (x : Option Bool) (e : List (List C)) (Q : Res → Prop) (K) (hK : ∀ (c' : Cu) (l : List Int), cuOk c' → l.length = n → Ok (K (n : Int) c'.o (c'.bs.map encB) c'.i c'.h x e none (l.map encInt)) Q) (c : Cu) (hc : cuOk c) :
    Ok (iterC (Rsl01DrawMem_6 K) FUEL (n : Int) 0 c.o (c.bs.map encB) c.i c.h x e none []) Q := by
  refine iter_ex (h := hsl01DrawMem_6) n (fun i (a : Cu × List Int) f => f (n : Int) (i : Int) a.1.o (a.1.bs.map encB) a.1.i a.1.h x e none (a.2.map encInt)) (fun i a => cuOk a.1 ∧ a.2.length = i) Q (by omega) ?_ ?_ (c, []) ⟨hc, rfl⟩
  · intro nx a ⟨h1, h2⟩
    exact ok_of (by simp [Rsl01DrawMem_6]) (hK a.1 a.2 h1 h2)
  · intro nx i a hi ⟨h1, h2⟩ hW
    obtain ⟨v, c1, e1, hc1, hv⟩ := dValue a.1 h1
    have hL : (a.2.length + 1) * 8 ≤ LIM := by unfold LIM; omega
    refine .inl ⟨(c1, a.2 ++ [v]), ⟨hc1, by simp [h2]⟩, ?_⟩
    simp [Rsl01DrawMem_6, hi, e1, hL, hW]
theorem dMem (c : Cu) (nl : Option Bool) (es : List (List C)) (hc : cuOk c) : ∃ (l : List Int) (c' : Cu), Fsl01DrawMem [.one (encCu c), .one (.sl false nl 1 es)] = some (.agg [.sl true none 1 (l.map encInt)], [.one (encCu c'), .one .unk]) ∧ cuOk c' ∧ l.length ≤ 17 := by
  have key : Ok (Fsl01DrawMem [.one (encCu c), .one (.sl false nl 1 es)]) (fun r => ∃ (l : List Int) (c' : Cu), r = (.agg [.sl true none 1 (l.map encInt)], [.one (encCu c'), .one .unk]) ∧ cuOk c' ∧ l.length ≤ 17) := by
    rw [msl01DrawMem]
    refine ok_below hc fun x c1 hc1 hx hx' => ?_
    have hx' := hx' (by omega)
    extract_lets -underBinder q1
    have hq : ∀ (n : Nat) (c : Cu), n ≤ 17 → cuOk c → Ok (q1 (n : Int) c.o (c.bs.map encB) c.i c.h) (fun r => ∃ (l : List Int) (c' : Cu), r = (.agg [.sl true none 1 (l.map encInt)], [.one (encCu c'), .one .unk]) ∧ cuOk c' ∧ l.length ≤ 17) := by
      intro n c hn hc
      refine lpDrawMem n hn _ _ _ _ (fun c2 l hc2 hl => ?_) c hc
      extract_lets -underBinder q2
      refine ok_once hc2 fun b c3 hc3 => ?_
      have hq2' : ∀ (l : List Int) (c : Cu), l.length = n → cuOk c → Ok (q2 (l.map encInt) c.o (c.bs.map encB) c.i c.h) (fun r => ∃ (l : List Int) (c' : Cu), r = (.agg [.sl true none 1 (l.map encInt)], [.one (encCu c'), .one .unk]) ∧ cuOk c' ∧ l.length ≤ 17) := by
        intro l c hl hc
        exact ok_eq (r := (.agg [.sl true none 1 (l.map encInt)], [.one (encCu c), .one .unk])) (by simp [q2]) ⟨l, c, rfl, hc, by omega⟩
      clear_value q2
      cases b
      · exact hq2' l c3 hl hc3
      · by_cases hn0 : 0 < n
        · obtain ⟨i, c4, e4, hc4, hi0, hi1⟩ := dBelow c3 (n : Int) hc3
          obtain ⟨v, c5, e5, hc5, _⟩ := dPick c4 (some false) [1000001, -1000001] hc4 (by simp)
          obtain ⟨k, rfl⟩ := Int.eq_ofNat_of_zero_le hi0
          have hk : k < l.length := by have := hi1 (by omega); omega
          simp only [List.map_cons, List.map_nil] at e5
          exact ok_of (by simp [-List.map_set, hn0, e4, e5, hk]) (hq2' (l.set k v) c5 (by simpa using hl) hc5)
        · exact ok_of (by simp [hn0]) (hq2' l c3 hl hc3)
    clear_value q1
    refine ok_once hc1 fun b c2 hc2 => ?_
    cases b
    · obtain ⟨k, rfl⟩ := Int.eq_ofNat_of_zero_le hx
      have w : W (1 + (k : Int)) = ((1 + k : Nat) : Int) := by rw [W_eq (by omega) (by omega)]; omega
      exact ok_of (by simp only [cond_false, w]) (hq (1 + k) c2 (by omega) hc2)
    · refine ok_pick (l := [0, 16, 17]) hc2 rfl (by simp) fun z c3 hc3 hz => ?_
      simp at hz
      rcases hz with rfl | rfl | rfl
      · exact hq 0 c3 (by omega) hc3
      · exact hq 16 c3 (by omega) hc3
      · exact hq 17 c3 (by omega) hc3
  obtain ⟨r, h1, x, c', rfl, h2⟩ := key
  exact ⟨x, c', h1, h2⟩
end Go.Proofs.Gh.Gm
set_option linter.unusedVariables false
set_option linter.unusedSimpArgs false
set_option maxRecDepth 100000
set_option maxHeartbeats 2000000
namespace Go.Proofs.Gh.Gm
def tys_d2 : List (Nat × TI) := [(3, ⟨false, 8, [.int .i64], [.int 0], .scalar, false, none⟩),
  (4, ⟨false, 1, [.bool], [.bool false], .scalar, false, none⟩),
  (5, ⟨false, 1, [.int .u8], [.v (.int .u8 0)], .scalar, false, none⟩),
  (23, ⟨false, 24, [.sl 1], [.sl true (some true) 1 []], .slice 3, false, none⟩),
  (38, ⟨false, 24, [.sl 1], [.sl true (some true) 1 []], .slice 5, false, none⟩),
  (64, ⟨false, 24, [.sl 1], [.sl true (some true) 1 []], .slice 69, false, none⟩),
  (66, ⟨true, 32, [.int .i64, .sl 1], [.int 0, .sl true (some true) 1 []], .struct [(0, 1, false), (1, 1, false)], false, none⟩),
  (69, ⟨false, 24, [.sl 4], [.sl true (some true) 4 []], .slice 135, false, none⟩),
  (112, ⟨false, 8, [.other], [.v (Value.pointer none)], .scalar, false, none⟩),
  (135, ⟨true, 32, [.int .i64, .int .i64, .int .i64, .int .i64], [.int 0, .int 0, .int 0, .int 0], .struct [(0, 1, false), (1, 1, false), (2, 1, false), (3, 1, false)], true, none⟩)]
theorem tys_d2_eq : tys_d2.map (fun x => tiOf Go.Proofs.Try.prog x.1 x.2.cks) = tys_d2.map fun x => some x.2 := by kernel_rfl
/-! sl01Size: loop.example/g00712/spec.l01Size -/
noncomputable def Qsl01Size : Fx := ⟨Go.Proofs.Try.f99, [.ro, .ro], false, mkEnv tys_d2 [] [], fun _ => .stop, []⟩
noncomputable def Fsl01Size : List S → Option Res := veil Qsl01Size.run
noncomputable def Ssl01Size : Spec := ⟨[.ro, .ro], false, Fsl01Size⟩
theorem msl01Size (x1 : Option Bool) (x2 : List (List C)) (x3 : Int) : Fsl01Size [.one (.sl false x1 1 x2), .one (.int x3)] = bif decide (W (2 + (W (Int.tdiv (x2.length : Int) 16))) > x3) then fr false 2 [.one (.int x3)] else fr false 2 [.one (.int (W (2 + (W (Int.tdiv (x2.length : Int) 16)))))] := Fx.eq (by kernel_rfl)
theorem oksl01Size : CalleeOk Go.Proofs.Try.prog 99 Ssl01Size := Fx.ok (F := Qsl01Size) follows (envTy_mk tys_d2_eq) (envSpec_of (specsOk_nil)) Go.Proofs.Try.func99 (by kernel_rfl) (by kernel_rfl) (by rw [show subs Qsl01Size.code = [] by kernel_rfl]; trivial) (by kernel_rfl) (by kernel_rfl) rfl
theorem dSize (o : Option Bool) (bs : List Int) (m : Int) (h : bs.length ≤ 1099511627776) (hm : 2 ≤ m) : ∃ n, Fsl01Size [.one (.sl false o 1 (bs.map encB)), .one (.int m)] = some (.one (.int n), [.one .unk, .one .unk]) ∧ 2 ≤ n ∧ n ≤ m := by
  have h1 := msl01Size o (bs.map encB) m
  obtain ⟨k, hk⟩ : ∃ k : Nat, Int.tdiv (bs.length : Int) 16 = (k : Int) ∧ k ≤ bs.length := ⟨bs.length / 16, by rw [show (16 : Int) = ((16 : Nat) : Int) from rfl, ← Int.ofNat_tdiv], Nat.div_le_self _ _⟩
  have w1 : W (k : Int) = (k : Int) := W_eq (by omega) (by omega)
  have w2 : W (2 + (k : Int)) = 2 + (k : Int) := W_eq (by omega) (by omega)
  by_cases hg : 2 + (k : Int) > m
  · exact ⟨m, h1.trans (by simp [hk.1, w1, w2, hg]), hm, by omega⟩
  · exact ⟨2 + k, h1.trans (by simp [hk.1, w1, w2, hg]), by omega, by omega⟩
/-! sl02DrawInstr: loop.example/g00712/spec.l02DrawInstr -/
noncomputable def Qsl02DrawInstr : Fx := ⟨Go.Proofs.Try.f175, [.io, .ro, .ro], true, mkEnv tys_d2 [(128, Ssl01Below), (149, Ssl01PickInt), (152, Ssl02Named)] [(128, [.cub 1]), (149, [.cub 1])], fun _ => .stop, []⟩
noncomputable def Fsl02DrawInstr : List S → Option Res := veil Qsl02DrawInstr.run
noncomputable def Ssl02DrawInstr : Spec := ⟨[.io, .ro, .ro], true, Fsl02DrawInstr⟩
theorem msl02DrawInstr (x1 : Option Bool) (x2 : List (List C)) (x3 : Int) (x4 : Int) (x5 : Int) (x6 : Int) : Fsl02DrawInstr [.one (.bx [.sl false x1 1 x2, .int x3, .int x4]), .one (.int x5), .one (.int x6)] = cOV [.cub 1] false [.int .i64] (Fsl01PickInt [.one (.bx [.sl false x1 1 x2, .int x3, .int x4]), .one (.sl true (some false) 1 [[.int 0], [.int 0], [.int 1], [.int 2], [.int 2], [.int 2], [.int 3], [.int 3], [.int 3], [.int 3], [.int 4], [.int 5], [.int 6], [.int 7], [.int 8]])]) fun o1 l1 n1 n2 n3 => (let q1 : (Option Bool) → (List (List C)) → Int → Int → Int → Option Res := fun z1 z2 z3 z4 z5 => (let q2 : (Option Bool) → (List (List C)) → Int → Int → Int → Option Res := fun z6 z7 z8 z9 z10 => (let q3 : Int → (Option Bool) → (List (List C)) → Int → Int → Option Res := fun z11 z12 z13 z14 z15 => fin true [.one (.bx [.sl false x1 1 x2, .int x3, .int x4]), .one (.int x5), .one (.int x6)] [.agg [.int n3, .int z5, .int z10, .int z11]] [.one (.bx [.sl false z12 1 z13, .int z14, .int z15]), .one .unk, .one .unk]; bif n3 == 0 then cOV [.cub 1] false [.int .i64] (Fsl01PickInt [.one (.bx [.sl false z6 1 z7, .int z8, .int z9]), .one (.sl true (some false) 1 [[.int 0], [.int 1], [.int 1], [.int 2], [.int 5], [.int (-1)], [.int 1000]])]) fun o2 l2 n4 n5 n6 => q3 n6 o2 l2 n4 n5 else (let q4 : Bool → Option Res := fun z16 => bif z16 then cOV [.cub 1] false [.int .i64] (Fsl01Below [.one (.bx [.sl false z6 1 z7, .int z8, .int z9]), .one (.int x5)]) fun o3 l3 n7 n8 n9 => q3 n9 o3 l3 n7 n8 else bif n3 == 6 then cOV [.cub 1] false [.int .i64] (Fsl01Below [.one (.bx [.sl false z6 1 z7, .int z8, .int z9]), .one (.int (W (x6 + 1)))]) fun o4 l4 n10 n11 n12 => q3 n12 o4 l4 n10 n11 else q3 0 z6 z7 z8 z9; bif n3 == 2 then q4 (n3 == 2) else bif n3 == 3 then q4 (n3 == 3) else bif n3 == 5 then q4 (n3 == 5) else q4 (n3 == 7))); cV false [.bool] (Fsl02Named [.one (.int n3), .one (.v (.int .u8 115))]) fun b1 => bif b1 then cOV [.cub 1] false [.int .i64] (Fsl01Below [.one (.bx [.sl false z1 1 z2, .int z3, .int z4]), .one (.int 3)]) fun o5 l5 n13 n14 n15 => q2 o5 l5 n13 n14 n15 else q2 z1 z2 z3 z4 0); cV false [.bool] (Fsl02Named [.one (.int n3), .one (.v (.int .u8 114))]) fun b2 => bif b2 then cOV [.cub 1] false [.int .i64] (Fsl01Below [.one (.bx [.sl false o1 1 l1, .int n1, .int n2]), .one (.int 3)]) fun o6 l6 n16 n17 n18 => q1 o6 l6 n16 n17 n18 else q1 o1 l1 n1 n2 0) := Fx.eq (by kernel_rfl)
theorem oksl02DrawInstr : CalleeOk Go.Proofs.Try.prog 175 Ssl02DrawInstr := Fx.ok (F := Qsl02DrawInstr) follows (envTy_mk tys_d2_eq) (envSpec_of (specsOk_cons oksl01Below (specsOk_cons oksl01PickInt (specsOk_cons oksl02Named specsOk_nil)))) Go.Proofs.Try.func175 (by kernel_rfl) (by kernel_rfl) (by rw [show subs Qsl02DrawInstr.code = [] by kernel_rfl]; trivial) (by kernel_rfl) (by kernel_rfl) rfl
theorem dInstr (c : Cu) (cells size : Int) (hc : cuOk c) : ∃ (i : Instr) (c' : Cu), Fsl02DrawInstr [.one (encCu c), .one (.int cells), .one (.int size)] = some (.agg (encInstr i), [.one (encCu c'), .one .unk, .one .unk]) ∧ cuOk c' := by
  have key : Ok (Fsl02DrawInstr [.one (encCu c), .one (.int cells), .one (.int size)]) (fun r => ∃ (i : Instr) (c' : Cu), r = (.agg (encInstr i), [.one (encCu c'), .one .unk, .one .unk]) ∧ cuOk c') := by
    rw [msl02DrawInstr]
    refine ok_pick (l := [0, 0, 1, 2, 2, 2, 3, 3, 3, 3, 4, 5, 6, 7, 8]) hc rfl (by simp) fun op c1 hc1 hop => ?_
    have hop : 0 ≤ op ∧ op ≤ 8 := by
      simp at hop
      omega
    extract_lets -underBinder q1
    have hq1 : ∀ (c : Cu) (r : Int), cuOk c → Ok (q1 c.o (c.bs.map encB) c.i c.h r) (fun r => ∃ (i : Instr) (c' : Cu), r = (.agg (encInstr i), [.one (encCu c'), .one .unk, .one .unk]) ∧ cuOk c') := by
      intro c r hc
      simp -zeta -zetaHave only [q1]
      extract_lets -underBinder q2
      have hq2 : ∀ (c : Cu) (s : Int), cuOk c → Ok (q2 c.o (c.bs.map encB) c.i c.h s) (fun r => ∃ (i : Instr) (c' : Cu), r = (.agg (encInstr i), [.one (encCu c'), .one .unk, .one .unk]) ∧ cuOk c') := by
        intro c s hc
        simp -zeta -zetaHave only [q2]
        extract_lets -underBinder q3 q4
        have hq3 : ∀ (c : Cu) (n : Int), cuOk c → Ok (q3 n c.o (c.bs.map encB) c.i c.h) (fun r => ∃ (i : Instr) (c' : Cu), r = (.agg (encInstr i), [.one (encCu c'), .one .unk, .one .unk]) ∧ cuOk c') := by
          intro c n hc
          exact ok_eq (r := (.agg (encInstr ⟨op, r, s, n⟩), [.one (encCu c), .one .unk, .one .unk])) (by simp [q3]) ⟨_, c, rfl, hc⟩
        clear_value q3
        cases h0 : (op == 0) with
        | true => exact ok_pick (l := [0, 1, 1, 2, 5, -1, 1000]) hc rfl (by simp) fun z c3 hc3 _ => hq3 c3 z hc3
        | false =>
          have hq4 : ∀ b : Bool, Ok (q4 b) (fun r => ∃ (i : Instr) (c' : Cu), r = (.agg (encInstr i), [.one (encCu c'), .one .unk, .one .unk]) ∧ cuOk c') := by
            intro b
            simp -zeta -zetaHave only [q4]
            cases b with
            | true => exact ok_below hc fun z c3 hc3 _ _ => hq3 c3 z hc3
            | false =>
              cases op == 6 with
              | true => exact ok_below hc fun z c3 hc3 _ _ => hq3 c3 z hc3
              | false => exact hq3 c 0 hc
          clear_value q4
          cases op == 2 <;> cases op == 3 <;> cases op == 5 <;> exact hq4 _
      clear_value q2
      rw [Fsl02Named_at op 115 hop]
      cases ((formS op).any fun b => (b.toNat : Int) == 115) with
      | true => exact ok_below hc fun z c3 hc3 _ _ => hq2 c3 z hc3
      | false => exact hq2 c 0 hc
    clear_value q1
    rw [Fsl02Named_at op 114 hop]
    cases ((formS op).any fun b => (b.toNat : Int) == 114) with
    | true => exact ok_below hc1 fun z c3 hc3 _ _ => hq1 c3 z hc3
    | false => exact hq1 c1 0 hc1
  obtain ⟨r, h1, x, c', rfl, h2⟩ := key
  exact ⟨x, c', h1, h2⟩
/-! sl02BendInstr: loop.example/g00712/spec.l02BendInstr -/
noncomputable def Qsl02BendInstr : Fx := ⟨Go.Proofs.Try.f151, [.io, .ro], true, mkEnv tys_d2 [(128, Ssl01Below), (149, Ssl01PickInt)] [(128, [.cub 1]), (149, [.cub 1])], fun _ => .stop, []⟩
noncomputable def Fsl02BendInstr : List S → Option Res := veil Qsl02BendInstr.run
noncomputable def Ssl02BendInstr : Spec := ⟨[.io, .ro], true, Fsl02BendInstr⟩
theorem msl02BendInstr (x1 : Option Bool) (x2 : List (List C)) (x3 : Int) (x4 : Int) (x5 : Int) (x6 : Int) (x7 : Int) (x8 : Int) : Fsl02BendInstr [.one (.bx [.sl false x1 1 x2, .int x3, .int x4]), .agg [.int x5, .int x6, .int x7, .int x8]] = (let q1 : Int → Int → Int → Int → (Option Bool) → (List (List C)) → Int → Int → Option Res := fun z1 z2 z3 z4 z5 z6 z7 z8 => fin true [.one (.bx [.sl false x1 1 x2, .int x3, .int x4]), .agg [.int x5, .int x6, .int x7, .int x8]] [.agg [.int z1, .int z2, .int z3, .int z4]] [.one (.bx [.sl false z5 1 z6, .int z7, .int z8]), .one .unk]; cOV [.cub 1] false [.int .i64] (Fsl01Below [.one (.bx [.sl false x1 1 x2, .int x3, .int x4]), .one (.int 4)]) fun o1 l1 n1 n2 n3 => bif n3 == 0 then cOV [.cub 1] false [.int .i64] (Fsl01Below [.one (.bx [.sl false o1 1 l1, .int n1, .int n2]), .one (.int 9)]) fun o2 l2 n4 n5 n6 => cOV [.cub 1] false [.int .i64] (Fsl01PickInt [.one (.bx [.sl false o2 1 l2, .int n4, .int n5]), .one (.sl true (some false) 1 [[.int (-1)], [.int 9], [.int n6]])]) fun o3 l3 n7 n8 n9 => q1 n9 x6 x7 x8 o3 l3 n7 n8 else bif n3 == 1 then cOV [.cub 1] false [.int .i64] (Fsl01PickInt [.one (.bx [.sl false o1 1 l1, .int n1, .int n2]), .one (.sl true (some false) 1 [[.int (-1)], [.int 3], [.int 4]])]) fun o4 l4 n10 n11 n12 => q1 x5 n12 x7 x8 o4 l4 n10 n11 else bif n3 == 2 then cOV [.cub 1] false [.int .i64] (Fsl01PickInt [.one (.bx [.sl false o1 1 l1, .int n1, .int n2]), .one (.sl true (some false) 1 [[.int (-1)], [.int 3], [.int 4], [.int 1]])]) fun o5 l5 n13 n14 n15 => q1 x5 x6 n15 x8 o5 l5 n13 n14 else bif n3 == 3 then cOV [.cub 1] false [.int .i64] (Fsl01PickInt [.one (.bx [.sl false o1 1 l1, .int n1, .int n2]), .one (.sl true (some false) 1 [[.int (-1)], [.int 15], [.int 16], [.int 17], [.int 1000], [.int 1001], [.int (-1000)], [.int (-1001)]])]) fun o6 l6 n16 n17 n18 => q1 x5 x6 x7 n18 o6 l6 n16 n17 else q1 x5 x6 x7 x8 o1 l1 n1 n2) := Fx.eq (by kernel_rfl)
theorem oksl02BendInstr : CalleeOk Go.Proofs.Try.prog 151 Ssl02BendInstr := Fx.ok (F := Qsl02BendInstr) follows (envTy_mk tys_d2_eq) (envSpec_of (specsOk_cons oksl01Below (specsOk_cons oksl01PickInt specsOk_nil))) Go.Proofs.Try.func151 (by kernel_rfl) (by kernel_rfl) (by rw [show subs Qsl02BendInstr.code = [] by kernel_rfl]; trivial) (by kernel_rfl) (by kernel_rfl) rfl
theorem dBendInstr (c : Cu) (i : Instr) (hc : cuOk c) : ∃ (i' : Instr) (c' : Cu), Fsl02BendInstr [.one (encCu c), .agg (encInstr i)] = some (.agg (encInstr i'), [.one (encCu c'), .one .unk]) ∧ cuOk c' := by
  have key : Ok (Fsl02BendInstr [.one (encCu c), .agg (encInstr i)]) (fun r => ∃ (i : Instr) (c' : Cu), r = (.agg (encInstr i), [.one (encCu c'), .one .unk]) ∧ cuOk c') := by
    rw [msl02BendInstr]
    extract_lets -underBinder q1
    have hq : ∀ (c : Cu) (a b d e : Int), cuOk c → Ok (q1 a b d e c.o (c.bs.map encB) c.i c.h) (fun r => ∃ (i : Instr) (c' : Cu), r = (.agg (encInstr i), [.one (encCu c'), .one .unk]) ∧ cuOk c') := fun c a b d e hc =>
      ok_eq (r := (.agg (encInstr ⟨a, b, d, e⟩), [.one (encCu c), .one .unk])) (by simp [q1]) ⟨_, c, rfl, hc⟩
    clear_value q1
    refine ok_below hc fun z c1 hc1 _ _ => ?_
    cases z == 0 with
    | true => exact ok_below hc1 fun y c2 hc2 _ _ => ok_pick (l := [-1, 9, y]) hc2 rfl (by simp) fun x c3 hc3 _ => hq c3 _ _ _ _ hc3
    | false =>
      cases z == 1 with
      | true => exact ok_pick (l := [-1, 3, 4]) hc1 rfl (by simp) fun x c3 hc3 _ => hq c3 _ _ _ _ hc3
      | false =>
        cases z == 2 with
        | true => exact ok_pick (l := [-1, 3, 4, 1]) hc1 rfl (by simp) fun x c3 hc3 _ => hq c3 _ _ _ _ hc3
        | false =>
          cases z == 3 with
          | true => exact ok_pick (l := [-1, 15, 16, 17, 1000, 1001, -1000, -1001]) hc1 rfl (by simp) fun x c3 hc3 _ => hq c3 _ _ _ _ hc3
          | false => exact hq c1 _ _ _ _ hc1
  obtain ⟨r, h1, x, c', rfl, h2⟩ := key
  exact ⟨x, c', h1, h2⟩
/-! sl02DrawCode: loop.example/g00712/spec.l02DrawCode -/
@[reducible] def hsl02DrawCode_3 : Sh := ⟨[.one (.o (.pl 0 0 [])), .one (.o (.i .i64)), .one (.o (.i .i64)), .one (.o (.al 3 0 [])), .one (.o (.i .i64))], [(false, [.o (.sl false 1), .o (.i .i64), .o (.i .i64)]), (true, [.o .u]), (true, [.o .u]), (true, [.o (.sl true 4)])]⟩
@[reducible] def xsl02DrawCode_3 : List (Ex × Sh) := [(.exit 0, ⟨[.one (.o (.al 3 0 []))], [(false, [.o (.sl false 1), .o (.i .i64), .o (.i .i64)]), (true, [.o .u]), (true, [.o .u]), (true, [.o (.sl true 4)])]⟩)]
noncomputable def Rsl02DrawCode_3 : KC xsl02DrawCode_3 (hsl02DrawCode_3.K → hsl02DrawCode_3.K) := fun k0 nx v1 v2 v3 v4 v5 v6 v7 v8 v9 => bif decide (v3 < v2) then cOV [.cub 1] true [.int .i64, .int .i64, .int .i64, .int .i64] (Fsl02DrawInstr [.one (.bx [.sl false v4 1 v5, .int v6, .int v7]), .one (.int v1), .one (.int v2)]) fun o1 l1 n1 n2 n3 n4 n5 n6 => if (v9.length + 1) * 32 ≤ LIM then nx v1 v2 (W (v3 + 1)) o1 l1 n1 n2 (apNl v8 [[]]) (v9 ++ [[.int n3, .int n4, .int n5, .int n6]]) else none else k0 v4 v5 v6 v7 v8 v9
noncomputable def Lsl02DrawCode_3 : Lp := ⟨3, [0, 1, 2, 7, 8], [7], 3, 23, hsl02DrawCode_3, xsl02DrawCode_3, Rsl02DrawCode_3⟩
noncomputable def Qsl02DrawCode : Fx := ⟨Go.Proofs.Try.f148, [.io, .ro, .ro], true, mkEnv tys_d2 [(175, Ssl02DrawInstr)] [(175, [.cub 1])], fun _ => .stop, [Lsl02DrawCode_3]⟩
noncomputable def Fsl02DrawCode : List S → Option Res := veil Qsl02DrawCode.run
noncomputable def Ssl02DrawCode : Spec := ⟨[.io, .ro, .ro], true, Fsl02DrawCode⟩
theorem msl02DrawCode (x1 : Option Bool) (x2 : List (List C)) (x3 : Int) (x4 : Int) (x5 : Int) (x6 : Int) : Fsl02DrawCode [.one (.bx [.sl false x1 1 x2, .int x3, .int x4]), .one (.int x5), .one (.int x6)] = iterC (Rsl02DrawCode_3 (fun y1 y2 y3 y4 y5 y6 => fin true [.one (.bx [.sl false x1 1 x2, .int x3, .int x4]), .one (.int x5), .one (.int x6)] [.one (.sl true y5 4 y6)] [.one (.bx [.sl false y1 1 y2, .int y3, .int y4]), .one .unk, .one .unk])) FUEL x5 x6 0 x1 x2 x3 x4 (some false) [] := Fx.eq (by kernel_rfl)
theorem stsl02DrawCode_3 : Lsl02DrawCode_3.Step Qsl02DrawCode.E Qsl02DrawCode.dr Qsl02DrawCode.lp ((findLoop 3 Qsl02DrawCode.code).getD .skip) := fun k nx v => by kernel_rfl
theorem oksl02DrawCode : CalleeOk Go.Proofs.Try.prog 148 Ssl02DrawCode := Fx.ok (F := Qsl02DrawCode) follows (envTy_mk tys_d2_eq) (envSpec_of (specsOk_cons oksl02DrawInstr specsOk_nil)) Go.Proofs.Try.func148 (by kernel_rfl) (by kernel_rfl) (by
  rw [show subs Qsl02DrawCode.code = [(findLoop 3 Qsl02DrawCode.code).getD .skip] by kernel_rfl]
  exact ⟨stepAt_some (by kernel_rfl) stsl02DrawCode_3, trivial⟩) (by kernel_rfl) (by kernel_rfl) rfl
theorem dCode (c : Cu) (cells : Int) (n : Nat) (hc : cuOk c) (hn : n ≤ 1048576) : ∃ (l : List Instr) (c' : Cu), Fsl02DrawCode [.one (encCu c), .one (.int cells), .one (.int n)] = some (.one (.sl true (some false) 4 (l.map encInstr)), [.one (encCu c'), .one .unk, .one .unk]) ∧ cuOk c' ∧ l.length = n := by
  have key : Ok (Fsl02DrawCode [.one (encCu c), .one (.int cells), .one (.int n)]) (fun r => ∃ (l : List Instr) (c' : Cu), r = (.one (.sl true (some false) 4 (l.map encInstr)), [.one (encCu c'), .one .unk, .one .unk]) ∧ cuOk c' ∧ l.length = n) := by
    rw [msl02DrawCode]
    refine iter_ex (h := hsl02DrawCode_3) n (fun i (a : Cu × List Instr) f => f cells (n : Int) (i : Int) a.1.o (a.1.bs.map encB) a.1.i a.1.h (some false) (a.2.map encInstr)) (fun i a => cuOk a.1 ∧ a.2.length = i) _ (by omega) ?_ ?_ (c, []) ⟨hc, rfl⟩
    · intro nx a ⟨h1, h2⟩
      exact ok_eq (r := (.one (.sl true (some false) 4 (a.2.map encInstr)), [.one (encCu a.1), .one .unk, .one .unk])) (by simp [Rsl02DrawCode_3]) ⟨a.2, a.1, rfl, h1, h2⟩
    · intro nx i a hi ⟨h1, h2⟩ hW
      obtain ⟨v, c1, e1, hc1⟩ := dInstr a.1 cells n h1
      have hL : (a.2.length + 1) * 32 ≤ LIM := by unfold LIM; omega
      refine .inl ⟨(c1, a.2 ++ [v]), ⟨hc1, by simp [h2]⟩, ?_⟩
      simp [Rsl02DrawCode_3, hi, e1, hL, hW, apNl]
  obtain ⟨r, h1, x, c', rfl, h2⟩ := key
  exact ⟨x, c', h1, h2⟩
theorem ok_code {c : Cu} {cells : Int} {n : Nat} {k : Option Bool → List (List C) → Int → Int → Option Bool → List (List C) → Option Res} {Q : Res → Prop} (hc : cuOk c) (hn : n ≤ 1048576) (h : ∀ (l : List Instr) c', cuOk c' → l.length = n → Ok (k c'.o (c'.bs.map encB) c'.i c'.h (some false) (l.map encInstr)) Q) :
    Ok (cOV [.cub 1] false [.sl 4] (Fsl02DrawCode [.one (.bx [.sl false c.o 1 (c.bs.map encB), .int c.i, .int c.h]), .one (.int cells), .one (.int n)]) k) Q := by
  obtain ⟨l, c', e, h1, h2⟩ := dCode c cells n hc hn
  exact ok_of (by simp [e]) (h l c' h1 h2)
/-! sl02DrawProg: loop.example/g00712/spec.l02DrawProg -/
@[reducible] def hsl02DrawProg_4 : Sh := ⟨[.one (.o (.pl 0 0 [])), .one (.o (.i .i64)), .one (.o (.pl 1 0 [])), .one (.o (.pl 3 0 [])), .one (.o (.i .i64)), .one (.o (.i .i64))], [(false, [.o (.sl false 1), .o (.i .i64), .o (.i .i64)]), (false, [.o (.i .i64), .o (.sl true 1)]), (true, [.o .u]), (false, [.o (.i .i64), .o (.sl true 1)])]⟩
@[reducible] def xsl02DrawProg_4 : List (Ex × Sh) := [(.exit 0, ⟨[.one (.o (.pl 1 0 [])), .one (.o (.pl 3 0 []))], [(false, [.o (.sl false 1), .o (.i .i64), .o (.i .i64)]), (false, [.o (.i .i64), .o (.sl true 1)]), (true, [.o .u]), (false, [.o (.i .i64), .o (.sl true 1)])]⟩)]
noncomputable def Rsl02DrawProg_4 : KC xsl02DrawProg_4 (hsl02DrawProg_4.K → hsl02DrawProg_4.K) := fun k0 nx v1 v2 v3 v4 v5 v6 v7 v8 v9 v10 v11 v12 v13 => bif decide (v3 < v2) then cOV [.cub 1] false [.int .i64] (Fsl01Below [.one (.bx [.sl false v4 1 v5, .int v6, .int v7]), .one (.int v1)]) fun o3 l3 n7 n8 n9 => (let q1 : Int → Option Res := fun z1 => cOV [.cub 1] false [.sl 4] (Fsl02DrawCode [.one (.bx [.sl false o3 1 l3, .int n7, .int n8]), .one (.int v11), .one (.int z1)]) fun o4 l4 n10 n11 o5 l5 => (let q2 : (Option Bool) → (List (List C)) → Int → Int → (List (List C)) → Option Res := fun z2 z3 z4 z5 z6 => if (v13.length + 1) * 24 ≤ LIM then nx v1 v2 (W (v3 + 1)) z2 z3 z4 z5 v8 v9 v10 v11 none (v13 ++ [[.sl true none 4 z6]]) else none; cOV [.cub 1] false [.int .i64] (Fsl01Below [.one (.bx [.sl false o4 1 l4, .int n10, .int n11]), .one (.int 3)]) fun o6 l6 n12 n13 n14 => bif decide (n14 > 0) then bif decide (z1 > 1) then cOV [.cub 1] false [.int .i64] (Fsl01Below [.one (.bx [.sl false o6 1 l6, .int n12, .int n13]), .one (.int 2)]) fun o7 l7 n15 n16 n17 => cOV [.cub 1] false [.int .i64] (Fsl01Below [.one (.bx [.sl false o7 1 l7, .int n15, .int n16]), .one (.int 3)]) fun o8 l8 n18 n19 n20 => ix 0 l5 (oc (.int .i64) l5 0 0 (oc (.int .i64) (md l5 0 0 (.int 0)) 0 1 ((let e1 : List (List C) := md (md l5 0 0 (.int 0)) 0 1 (.int n17); oc (.int .i64) e1 0 2 (oc (.int .i64) (md e1 0 2 (.int 0)) 0 3 ((let e2 : List (List C) := md (md e1 0 2 (.int 0)) 0 3 (.int (W (1 + n20))); ix 0 e2 (both ((e2[0]?).bind fun w1 => tOwn [.int .i64] (List.drop 1 w1) fun n21 => cOV [.cub 1] false [.int .i64] (Fsl01Below [.one (.bx [.sl false o8 1 l8, .int n18, .int n19]), .one (.int v11)]) fun o9 l9 n22 n23 n24 => ix 1 e2 (oc (.int .i64) e2 1 0 (oc (.int .i64) (md e2 1 0 (.int 3)) 1 1 ((let e3 : List (List C) := md (md e2 1 0 (.int 3)) 1 1 (.int n21); oc (.int .i64) e3 1 2 (oc (.int .i64) (md e3 1 2 (.int 0)) 1 3 ((let e4 : List (List C) := md (md e3 1 2 (.int 0)) 1 3 (.int n24); q2 o9 l9 n22 n23 e4)))))))) (cOV [.cub 1] false [.int .i64] (Fsl01Below [.one (.bx [.sl false o8 1 l8, .int n18, .int n19]), .one (.int v11)]) fun o9 l9 n21 n22 n23 => (e2[0]?).bind fun w1 => tOwn [.int .i64] (List.drop 1 w1) fun n24 => ix 1 e2 (oc (.int .i64) e2 1 0 (oc (.int .i64) (md e2 1 0 (.int 3)) 1 1 ((let e3 : List (List C) := md (md e2 1 0 (.int 3)) 1 1 (.int n24); oc (.int .i64) e3 1 2 (oc (.int .i64) (md e3 1 2 (.int 0)) 1 3 ((let e4 : List (List C) := md (md e3 1 2 (.int 0)) 1 3 (.int n23); q2 o9 l9 n21 n22 e4)))))))))))))))) else q2 o6 l6 n12 n13 l5 else q2 o6 l6 n12 n13 l5); bif v2 == 3 then bif decide (W (1 + n9) > 3) then q1 3 else q1 (W (1 + n9)) else q1 (W (1 + n9))) else k0 v4 v5 v6 v7 v8 v9 v10 v11 v12 v13
noncomputable def Lsl02DrawProg_4 : Lp := ⟨4, [0, 1, 4, 5, 6, 7], [4, 5], 4, 70, hsl02DrawProg_4, xsl02DrawProg_4, Rsl02DrawProg_4⟩
noncomputable def Qsl02DrawProg : Fx := ⟨Go.Proofs.Try.f98, [.io, .ro], true, mkEnv tys_d2 [(128, Ssl01Below), (148, Ssl02DrawCode)] [(128, [.cub 1]), (148, [.cub 1])], fun id => bif Nat.beq id 12 then .ac [4] (.sq [0, 1, 2, 3, 5, 6, 7] (.alt 4 (.sq [8, 9, 10, 11] .stop) (.sq [8, 4, 9, 10, 11] .stop))) else .stop, [Lsl02DrawProg_4]⟩
noncomputable def Fsl02DrawProg : List S → Option Res := veil Qsl02DrawProg.run
noncomputable def Ssl02DrawProg : Spec := ⟨[.io, .ro], true, Fsl02DrawProg⟩
theorem msl02DrawProg (x1 : Option Bool) (x2 : List (List C)) (x3 : Int) (x4 : Int) (x5 : Int) : Fsl02DrawProg [.one (.bx [.sl false x1 1 x2, .int x3, .int x4]), .one (.int x5)] = cOV [.cub 1] false [.int .i64] (Fsl01Below [.one (.bx [.sl false x1 1 x2, .int x3, .int x4]), .one (.int 3)]) fun o1 l1 n1 n2 n3 => cOV [.cub 1] false [.int .i64] (Fsl01Below [.one (.bx [.sl false o1 1 l1, .int n1, .int n2]), .one (.int 3)]) fun o2 l2 n4 n5 n6 => iterC (Rsl02DrawProg_4 (fun y1 y2 y3 y4 y5 y6 y7 y8 y9 y10 => fin true [.one (.bx [.sl false x1 1 x2, .int x3, .int x4]), .one (.int x5)] [.agg [.int y8, .sl true none 1 y10]] [.one (.bx [.sl false y1 1 y2, .int y3, .int y4]), .one .unk])) FUEL x5 (W (1 + n6)) 0 o2 l2 n4 n5 0 (some true) [] (W (1 + n3)) none [] := Fx.eq (by kernel_rfl)
theorem stsl02DrawProg_4 : Lsl02DrawProg_4.Step Qsl02DrawProg.E Qsl02DrawProg.dr Qsl02DrawProg.lp ((findLoop 4 Qsl02DrawProg.code).getD .skip) := fun k nx v => by kernel_rfl
theorem oksl02DrawProg : CalleeOk Go.Proofs.Try.prog 98 Ssl02DrawProg := Fx.ok (F := Qsl02DrawProg) follows (envTy_mk tys_d2_eq) (envSpec_of (specsOk_cons oksl01Below (specsOk_cons oksl02DrawCode specsOk_nil))) Go.Proofs.Try.func98 (by kernel_rfl) (by kernel_rfl) (by
  rw [show subs Qsl02DrawProg.code = [(findLoop 4 Qsl02DrawProg.code).getD .skip] by kernel_rfl]
  exact ⟨stepAt_some (by kernel_rfl) stsl02DrawProg_4, trivial⟩) (by kernel_rfl) (by kernel_rfl) rfl
/-- A program of so many codes, each so long at most. -/
def progB (p : Prog) (a b : Nat) : Prop := p.codes.length ≤ a ∧ ∀ c ∈ p.codes, c.length ≤ b
theorem dProg (c : Cu) (most : Int) (hc : cuOk c) (hm : 1 ≤ most ∧ most ≤ 1000) : ∃ (p : Prog) (c' : Cu), Fsl02DrawProg [.one (encCu c), .one (.int most)] = some (.agg (encProg true p), [.one (encCu c'), .one .unk]) ∧ cuOk c' ∧ progB p 3 1000 := by
  have key : Ok (Fsl02DrawProg [.one (encCu c), .one (.int most)]) (fun r => ∃ (p : Prog) (c' : Cu), r = (.agg (encProg true p), [.one (encCu c'), .one .unk]) ∧ cuOk c' ∧ progB p 3 1000) := by
    rw [msl02DrawProg]
    refine ok_below hc fun x c1 hc1 hx hx' => ok_below hc1 fun y c2 hc2 hy hy' => ?_
    have hx' := hx' (by omega)
    have hy' := hy' (by omega)
    have w1 : W (1 + x) = 1 + x := W_eq (by omega) (by omega)
    obtain ⟨m, rfl⟩ := Int.eq_ofNat_of_zero_le hy
    have w2 : W (1 + (m : Int)) = ((1 + m : Nat) : Int) := by rw [W_eq (by omega) (by omega)]; omega
    rw [w1, w2]
    generalize hn : 1 + m = n
    refine iter_ok (h := hsl02DrawProg_4) n (fun i (a : Cu × List (List Instr)) f => f most (n : Int) (i : Int) a.1.o (a.1.bs.map encB) a.1.i a.1.h 0 (some true) [] (1 + x) none (a.2.map (encCode true)))
      (fun i a => cuOk a.1 ∧ a.2.length = i ∧ ∀ c ∈ a.2, c.length ≤ 1000) _ (by omega) ?_ ?_ (c2, []) ⟨hc2, rfl, by simp⟩
    · intro nx a ⟨h1, h2, h3⟩
      exact ok_eq (r := (.agg (encProg true ⟨1 + x, a.2⟩), [.one (encCu a.1), .one .unk])) (by simp [Rsl02DrawProg_4]) ⟨⟨1 + x, a.2⟩, a.1, rfl, h1, by simp only; omega, h3⟩
    · intro nx i a hi ⟨h1, h2, h3⟩ hW hnx
      have hL : (a.2.length + 1) * 24 ≤ LIM := by unfold LIM; omega
      have hlt : (i : Int) < (n : Int) := by omega
      simp -zeta -zetaHave only [Rsl02DrawProg_4, hlt, decide_true, cond_true]
      refine ok_below h1 fun k c3 hc3 hk0 hk1 => ?_
      have hk1 := hk1 (by omega)
      obtain ⟨k, rfl⟩ := Int.eq_ofNat_of_zero_le hk0
      have w3 : W (1 + (k : Int)) = ((1 + k : Nat) : Int) := by rw [W_eq (by omega) (by omega)]; omega
      rw [w3]
      extract_lets -underBinder q1
      have hq : ∀ z : Nat, 1 ≤ z → z ≤ 1000 → Ok (q1 (z : Int)) (fun r => ∃ (p : Prog) (c' : Cu), r = (.agg (encProg true p), [.one (encCu c'), .one .unk]) ∧ cuOk c' ∧ progB p 3 1000) := by
        intro z hz1 hz2
        simp -zeta -zetaHave only [q1]
        refine ok_code hc3 (by omega) fun b c4 hc4 hb => ?_
        extract_lets -underBinder q2
        have hq2 : ∀ (b : List Instr) (c : Cu), b.length ≤ 1000 → cuOk c → Ok (q2 c.o (c.bs.map encB) c.i c.h (b.map encInstr)) (fun r => ∃ (p : Prog) (c' : Cu), r = (.agg (encProg true p), [.one (encCu c'), .one .unk]) ∧ cuOk c' ∧ progB p 3 1000) := fun b c hb hc =>
          ok_of (by simp [q2, hL, hW]) (hnx (c, a.2 ++ [b]) ⟨hc, by simp [h2], fun c' hc' => (List.mem_append.1 hc').elim (h3 c') fun h => by simp at h; subst h; exact hb⟩)
        clear_value q2
        refine ok_below hc4 fun y c5 hc5 hy0 hy1 => ?_
        cases decide (y > 0) with
        | false => exact hq2 b c5 (by omega) hc5
        | true =>
          by_cases hz3 : (z : Int) > 1
          · simp only [cond_true, hz3, decide_true]
            refine ok_below hc5 fun r c6 hc6 hr0 hr1 => ok_below hc6 fun v c7 hc7 hv0 hv1 => ?_
            obtain ⟨s, c8, e8, hc8, _⟩ := dBelow c7 (1 + x) hc7
            have b0 : 0 < b.length := by omega
            have b1 : 1 < b.length := by omega
            have hv1 := hv1 (by omega)
            have i0 : ∀ (l : List Instr) (k : Option Res), 0 < l.length → ix 0 (l.map encInstr) k = k := fun l k h => ix_of (by omega) (by simpa using h)
            have i1 : ∀ (l : List Instr) (k : Option Res), 1 < l.length → ix 1 (l.map encInstr) k = k := fun l k h => ix_of (by omega) (by simp; omega)
            exact ok_of (by simp [-List.map_set, e8, b0, b1, i0, i1]) (hq2 ((b.set 0 ⟨0, r, 0, W (1 + v)⟩).set 1 ⟨3, r, 0, s⟩) c8 (by simp; omega) hc8)
          · exact ok_of (by simp [hz3]) (hq2 b c5 (by omega) hc5)
      clear_value q1
      cases (n : Int) == 3 with
      | false => exact hq (1 + k) (by omega) (by omega)
      | true =>
        by_cases hg : ((1 + k : Nat) : Int) > 3
        · rw [decide_eq_true hg]; exact hq 3 (by omega) (by omega)
        · rw [decide_eq_false hg]; exact hq (1 + k) (by omega) (by omega)
  obtain ⟨r, h1, x, c', rfl, h2⟩ := key
  exact ⟨x, c', h1, h2⟩
theorem ok_prog {c : Cu} {most : Int} {k : Option Bool → List (List C) → Int → Int → Int → Option Bool → List (List C) → Option Res} {Q : Res → Prop} (hc : cuOk c) (hm : 1 ≤ most ∧ most ≤ 1000) (h : ∀ (p : Prog) c', cuOk c' → progB p 3 1000 → Ok (k c'.o (c'.bs.map encB) c'.i c'.h p.cells none (p.codes.map (encCode true))) Q) :
    Ok (cOV [.cub 1] true [.int .i64, .sl 1] (Fsl02DrawProg [.one (.bx [.sl false c.o 1 (c.bs.map encB), .int c.i, .int c.h]), .one (.int most)]) k) Q := by
  obtain ⟨l, c', e, h1, h2⟩ := dProg c most hc hm
  exact ok_of (by simp [e]) (h l c' h1 h2)
/-! sl02Codes: loop.example/g00712/spec.l02Codes -/
@[reducible] def hsl02Codes_3 : Sh := ⟨[.one (.o (.sl false 4)), .one (.o (.al 2 0 [])), .one (.o (.i .i64))], [(true, [.o .u]), (true, [.o .u]), (true, [.o (.sl true 4)])]⟩
@[reducible] def xsl02Codes_3 : List (Ex × Sh) := [(.exit 0, ⟨[.one (.o (.al 2 0 []))], [(true, [.o .u]), (true, [.o .u]), (true, [.o (.sl true 4)])]⟩)]
noncomputable def Rsl02Codes_3 : KC xsl02Codes_3 (hsl02Codes_3.K → hsl02Codes_3.K) := fun k0 nx v1 v2 v3 v4 v5 => bif decide (v3 < (v2.length : Int)) then ix v3 v2 ((v2[Int.toNat v3]?).bind fun w1 => tRo [.int .i64, .int .i64, .int .i64, .int .i64] w1 fun n1 n2 n3 n4 => if (v5.length + 1) * 32 ≤ LIM then nx v1 v2 (W (v3 + 1)) (apNl v4 [[]]) (v5 ++ [[.int n1, .int n2, .int n3, .int n4]]) else none) else k0 v4 v5
noncomputable def Lsl02Codes_3 : Lp := ⟨3, [0, 3, 4], [3], 2, 20, hsl02Codes_3, xsl02Codes_3, Rsl02Codes_3⟩
noncomputable def Qsl02Codes : Fx := ⟨Go.Proofs.Try.f150, [.ro], false, mkEnv tys_d2 [] [], fun _ => .stop, [Lsl02Codes_3]⟩
noncomputable def Fsl02Codes : List S → Option Res := veil Qsl02Codes.run
noncomputable def Ssl02Codes : Spec := ⟨[.ro], false, Fsl02Codes⟩
theorem msl02Codes (x1 : Option Bool) (x2 : List (List C)) : Fsl02Codes [.one (.sl false x1 4 x2)] = iterC (Rsl02Codes_3 (fun y1 y2 => fr false 1 [.one (.sl true y1 4 y2)])) FUEL x1 x2 0 (some false) [] := Fx.eq (by kernel_rfl)
theorem stsl02Codes_3 : Lsl02Codes_3.Step Qsl02Codes.E Qsl02Codes.dr Qsl02Codes.lp ((findLoop 3 Qsl02Codes.code).getD .skip) := fun k nx v => by kernel_rfl
theorem oksl02Codes : CalleeOk Go.Proofs.Try.prog 150 Ssl02Codes := Fx.ok (F := Qsl02Codes) follows (envTy_mk tys_d2_eq) (envSpec_of (specsOk_nil)) Go.Proofs.Try.func150 (by kernel_rfl) (by kernel_rfl) (by
  rw [show subs Qsl02Codes.code = [(findLoop 3 Qsl02Codes.code).getD .skip] by kernel_rfl]
  exact ⟨stepAt_some (by kernel_rfl) stsl02Codes_3, trivial⟩) (by kernel_rfl) (by kernel_rfl) rfl
theorem Fsl02Codes_at (nl : Option Bool) (l : List Instr) (h : l.length ≤ 1048576) : Fsl02Codes [S.one (C.sl false nl 4 (l.map encInstr))] = some (S.one (C.sl true (some false) 4 (l.map encInstr)), [S.one C.unk]) := by
  rw [msl02Codes]
  refine (iter_fold (h := hsl02Codes_3) l (fun i (a : List Instr) f => f nl (l.map encInstr) (i : Int) (some false) (a.map encInstr)) (fun a x => a ++ [x]) (fun a => fr false 1 [.one (.sl true (some false) 4 (a.map encInstr))]) (fun i a => a.length = i) (by omega) ?_ ?_ [] rfl).trans ?_
  · intro nx a ha; simp [Rsl02Codes_3]
  · intro nx i a hi ha hW
    have hL : (a.length + 1) * 32 ≤ LIM := by unfold LIM; omega
    refine ⟨by simp [ha], ?_⟩
    simp [Rsl02Codes_3, hi, hL, hW, apNl]
  · have : ∀ (l a : List Instr), l.foldl (fun a x => a ++ [x]) a = a ++ l := by
      intro l
      induction l with
      | nil => simp
      | cons x l ih => intro a; simp [ih]
    rw [this]; simp
/-! sl02Bend: loop.example/g00712/spec.l02Bend -/
noncomputable def Qsl02Bend : Fx := ⟨Go.Proofs.Try.f101, [.io, .tk], true, mkEnv tys_d2 [(128, Ssl01Below), (149, Ssl01PickInt), (150, Ssl02Codes), (151, Ssl02BendInstr)] [(128, [.cub 1]), (149, [.cub 1]), (151, [.cub 1])], fun _ => .stop, []⟩
noncomputable def Fsl02Bend : List S → Option Res := veil Qsl02Bend.run
noncomputable def Ssl02Bend : Spec := ⟨[.io, .tk], true, Fsl02Bend⟩
theorem msl02Bend (x1 : Option Bool) (x2 : List (List C)) (x3 : Int) (x4 : Int) (x5 : Int) (x6 : List (List C)) : Fsl02Bend [.one (.bx [.sl false x1 1 x2, .int x3, .int x4]), .agg [.int x5, .sl true none 1 x6]] = (let q1 : Int → (List (List C)) → (Option Bool) → (List (List C)) → Int → Int → Option Res := fun z1 z2 z3 z4 z5 z6 => fin true [.one (.bx [.sl false x1 1 x2, .int x3, .int x4]), .agg [.int x5, .sl true none 1 x6]] [.agg [.int z1, .sl true none 1 z2]] [.one (.bx [.sl false z3 1 z4, .int z5, .int z6]), .one .unk]; cOV [.cub 1] false [.int .i64] (Fsl01Below [.one (.bx [.sl false x1 1 x2, .int x3, .int x4]), .one (.int 4)]) fun o1 l1 n1 n2 n3 => bif n3 == 0 then cOV [.cub 1] false [.int .i64] (Fsl01PickInt [.one (.bx [.sl false o1 1 l1, .int n1, .int n2]), .one (.sl true (some false) 1 [[.int 0], [.int 1], [.int 16], [.int 17]])]) fun o2 l2 n4 n5 n6 => q1 n6 x6 o2 l2 n4 n5 else bif n3 == 1 then if (x6.length + 2) * 24 ≤ LIM then q1 x5 (x6 ++ [[.sl true none 4 []], [.sl true none 4 []]]) o1 l1 n1 n2 else none else bif n3 == 2 then q1 x5 [] o1 l1 n1 n2 else bif n3 == 3 then bif decide ((x6.length : Int) > 0) then ix 0 x6 ((x6[0]?).bind fun w1 => tOwn [.sl 4] w1 ((x6[0]?).bind fun w2 => (w2[0]?).bind fun c1 => (C.asOwn 4 c1).bind fun q2 => bif decide ((q2.2.length : Int) > 0) then ix 0 x6 ((x6[0]?).bind fun w3 => tOwn [.sl 4] w3 ((x6[0]?).bind fun w4 => (w4[0]?).bind fun c2 => if C.nested c2 then cV false [.sl 4] (Fsl02Codes [.one (C.freeze c2)]) fun o3 l3 => cOV [.cub 1] false [.int .i64] (Fsl01Below [.one (.bx [.sl false o1 1 l1, .int n1, .int n2]), .one (.int (l3.length : Int))]) fun o4 l4 n7 n8 n9 => ix n9 l3 ((l3[Int.toNat n9]?).bind fun w5 => tOwn [.int .i64, .int .i64, .int .i64, .int .i64] w5 fun n10 n11 n12 n13 => cOV [.cub 1] true [.int .i64, .int .i64, .int .i64, .int .i64] (Fsl02BendInstr [.one (.bx [.sl false o4 1 l4, .int n7, .int n8]), .agg [.int n10, .int n11, .int n12, .int n13]]) fun o5 l5 n14 n15 n16 n17 n18 n19 => ix n9 l3 (oc (.int .i64) l3 (Int.toNat n9) 0 ((let e1 : List (List C) := md l3 (Int.toNat n9) 0 (.int n16); oc (.int .i64) e1 (Int.toNat n9) 1 ((let e2 : List (List C) := md e1 (Int.toNat n9) 1 (.int n17); oc (.int .i64) e2 (Int.toNat n9) 2 ((let e3 : List (List C) := md e2 (Int.toNat n9) 2 (.int n18); oc (.int .i64) e3 (Int.toNat n9) 3 ((let e4 : List (List C) := md e3 (Int.toNat n9) 3 (.int n19); ix 0 x6 ((x6[0]?).bind fun w6 => (w6[0]?).bind fun c3 => q1 x5 (md x6 0 0 (.sl true none 4 e4)) o5 l5 n14 n15))))))))))) else none)) else q1 x5 x6 o1 l1 n1 n2)) else q1 x5 x6 o1 l1 n1 n2 else q1 x5 x6 o1 l1 n1 n2) := Fx.eq (by kernel_rfl)
theorem oksl02Bend : CalleeOk Go.Proofs.Try.prog 101 Ssl02Bend := Fx.ok (F := Qsl02Bend) follows (envTy_mk tys_d2_eq) (envSpec_of (specsOk_cons oksl01Below (specsOk_cons oksl01PickInt (specsOk_cons oksl02Codes (specsOk_cons oksl02BendInstr specsOk_nil))))) Go.Proofs.Try.func101 (by kernel_rfl) (by kernel_rfl) (by rw [show subs Qsl02Bend.code = [] by kernel_rfl]; trivial) (by kernel_rfl) (by kernel_rfl) rfl
theorem dBend (c : Cu) (p : Prog) (hc : cuOk c) (hp : progB p 3 1000) : ∃ (p' : Prog) (c' : Cu), Fsl02Bend [.one (encCu c), .agg (encProg true p)] = some (.agg (encProg true p'), [.one (encCu c'), .one .unk]) ∧ cuOk c' ∧ progB p' 5 1000 := by
  have key : Ok (Fsl02Bend [.one (encCu c), .agg (encProg true p)]) (fun r => ∃ (p : Prog) (c' : Cu), r = (.agg (encProg true p), [.one (encCu c'), .one .unk]) ∧ cuOk c' ∧ progB p 5 1000) := by
    rw [msl02Bend]
    extract_lets -underBinder q1
    have hq : ∀ (a : Int) (l : List (List Instr)) (c : Cu), progB ⟨a, l⟩ 5 1000 → cuOk c → Ok (q1 a (l.map (encCode true)) c.o (c.bs.map encB) c.i c.h) (fun r => ∃ (p : Prog) (c' : Cu), r = (.agg (encProg true p), [.one (encCu c'), .one .unk]) ∧ cuOk c' ∧ progB p 5 1000) := fun a l c hl hc =>
      ok_eq (r := (.agg (encProg true ⟨a, l⟩), [.one (encCu c), .one .unk])) (by simp [q1]) ⟨_, c, rfl, hc, hl⟩
    clear_value q1
    obtain ⟨cells, codes⟩ := p
    obtain ⟨h1, h2⟩ := hp
    simp only at h1 h2
    have hsame : ∀ a : Int, progB ⟨a, codes⟩ 5 1000 := fun a => ⟨by simp only; omega, h2⟩
    refine ok_below hc fun z c1 hc1 _ _ => ?_
    cases z == 0 with
    | true => exact ok_pick (l := [0, 1, 16, 17]) hc1 rfl (by simp) fun x c3 hc3 _ => hq x codes c3 (hsame x) hc3
    | false =>
      cases z == 1 with
      | true =>
        have hL : (codes.length + 2) * 24 ≤ LIM := by unfold LIM; omega
        exact ok_of (by simp [hL, encCode]) (hq cells (codes ++ [[], []]) c1 ⟨by simp; omega, fun c hc => (List.mem_append.1 hc).elim (h2 c) fun h => by simp at h; subst h; simp⟩ hc1)
      | false =>
        cases z == 2 with
        | true => exact hq cells [] c1 ⟨by simp, by simp⟩ hc1
        | false =>
          cases z == 3 with
          | false => exact hq cells codes c1 (hsame _) hc1
          | true =>
            cases codes with
            | nil => exact ok_of (by simp) (hq cells [] c1 ⟨by simp, by simp⟩ hc1)
            | cons c0 cs =>
              have i0 : ∀ (l : List (List Instr)) (k : Option Res), 0 < l.length → ix 0 (l.map (encCode true)) k = k := fun l k h => ix_of (by omega) (by simpa using h)
              have i0 := i0 (c0 :: cs)
              cases c0 with
              | nil => exact ok_of (by simp [ix]) (hq cells ([] :: cs) c1 (hsame _) hc1)
              | cons i is =>
                have hlen : (i :: is).length ≤ 1000 := h2 _ (by simp)
                obtain ⟨n, c4, e4, hc4, hn0, hn1⟩ := dBelow c1 ((i :: is).length : Int) hc1
                have hn1 := hn1 (by simp)
                obtain ⟨k, rfl⟩ := Int.eq_ofNat_of_zero_le hn0
                have hk : k < (i :: is).length := by omega
                obtain ⟨i', c5, e5, hc5⟩ := dBendInstr c4 (i :: is)[k] hc4
                have hcp := Fsl02Codes_at none (i :: is) (by omega)
                generalize hl : i :: is = l at *
                have hpos : 0 < l.length := by omega
                refine ok_of ?_ (hq cells (l.set k i' :: cs) c5 ⟨by simp only [List.length_cons] at h1 ⊢; omega, fun c hc => (List.mem_cons.1 hc).elim (fun h => by rw [h]; simpa using hlen) fun h => h2 c (by simp [h])⟩ hc5)
                simp [-List.map_set, -List.map_cons, i0, hpos, hcp, e4, e5, hk, C.freeze, C.asOwn]
  obtain ⟨r, h1, x, c', rfl, h2⟩ := key
  exact ⟨x, c', h1, h2⟩
theorem ok_bend {c : Cu} {p : Prog} {k : Option Bool → List (List C) → Int → Int → Int → Option Bool → List (List C) → Option Res} {Q : Res → Prop} (hc : cuOk c) (hp : progB p 3 1000) (h : ∀ (p : Prog) c', cuOk c' → progB p 5 1000 → Ok (k c'.o (c'.bs.map encB) c'.i c'.h p.cells none (p.codes.map (encCode true))) Q) :
    Ok (cOV [.cub 1] true [.int .i64, .sl 1] (Fsl02Bend [.one (.bx [.sl false c.o 1 (c.bs.map encB), .int c.i, .int c.h]), .agg [.int p.cells, .sl true none 1 (p.codes.map (encCode true))]]) k) Q := by
  obtain ⟨l, c', e, h1, h2⟩ := dBend c p hc hp
  exact ok_of (by simp [e]) (h l c' h1 h2)
/-! sDrawProgOk: loop.example/g00712/spec.DrawProgOk -/
noncomputable def QsDrawProgOk : Fx := ⟨Go.Proofs.Try.f50, [.ro], false, mkEnv tys_d2 [(100, Ssl01Once), (101, Ssl02Bend), (97, Ssl01New), (98, Ssl02DrawProg), (99, Ssl01Size)] [(100, [.cub 1]), (101, [.cub 1]), (97, [.cur 1]), (98, [.cub 1])], fun _ => .stop, []⟩
noncomputable def FsDrawProgOk : List S → Option Res := veil QsDrawProgOk.run
noncomputable def SsDrawProgOk : Spec := ⟨[.ro], false, FsDrawProgOk⟩
theorem msDrawProgOk (x1 : Option Bool) (x2 : List (List C)) : FsDrawProgOk [.one (.sl false x1 1 x2)] = cOV [.cur 1] false [.other] (Fsl01New [.one (.sl false x1 1 x2)]) fun c1 => cuK 1 c1 fun o1 l1 n1 n2 => cV false [.int .i64] (Fsl01Size [.one (.sl false x1 1 x2), .one (.int 16)]) fun n3 => cOV [.cub 1] true [.int .i64, .sl 1] (Fsl02DrawProg [.one (.bx [.sl false o1 1 l1, .int n1, .int n2]), .one (.int n3)]) fun o2 l2 n4 n5 n6 o3 l3 => cOV [.cub 1] false [.bool] (Fsl01Once [.one (.bx [.sl false o2 1 l2, .int n4, .int n5]), .one (.int 3)]) fun o4 l4 n7 n8 b1 => bif b1 then cOV [.cub 1] true [.int .i64, .sl 1] (Fsl02Bend [.one (.bx [.sl false o4 1 l4, .int n7, .int n8]), .agg [.int n6, .sl true none 1 l3]]) fun o5 l5 n9 n10 n11 o6 l6 => fr false 1 [.agg [.int n11, .sl true none 1 l6]] else fr false 1 [.agg [.int n6, .sl true none 1 l3]] := Fx.eq (by kernel_rfl)
theorem oksDrawProgOk : CalleeOk Go.Proofs.Try.prog 50 SsDrawProgOk := Fx.ok (F := QsDrawProgOk) follows (envTy_mk tys_d2_eq) (envSpec_of (specsOk_cons oksl01Once (specsOk_cons oksl02Bend (specsOk_cons oksl01New (specsOk_cons oksl02DrawProg (specsOk_cons oksl01Size specsOk_nil)))))) Go.Proofs.Try.func50 (by kernel_rfl) (by kernel_rfl) (by rw [show subs QsDrawProgOk.code = [] by kernel_rfl]; trivial) (by kernel_rfl) (by kernel_rfl) rfl
theorem dProgOk (o : Option Bool) (bs : List Int) (h : bs.length ≤ 1099511627776) : ∃ p : Prog, FsDrawProgOk [.one (.sl false o 1 (bs.map encB))] = some (.agg (encProg true p), [.one .unk]) ∧ progB p 5 1000 := by
  have key : Ok (FsDrawProgOk [.one (.sl false o 1 (bs.map encB))]) (fun r => ∃ p : Prog, r = (.agg (encProg true p), [.one .unk]) ∧ progB p 5 1000) := by
    rw [msDrawProgOk]
    obtain ⟨c, e, hc⟩ := dNew o bs h
    obtain ⟨n, e2, hn1, hn2⟩ := dSize o bs 16 h (by omega)
    refine ok_of (y := cOV [.cub 1] true [.int .i64, .sl 1] (Fsl02DrawProg [.one (.bx [.sl false c.o 1 (c.bs.map encB), .int c.i, .int c.h]), .one (.int n)]) fun o2 l2 n4 n5 n6 o3 l3 => cOV [.cub 1] false [.bool] (Fsl01Once [.one (.bx [.sl false o2 1 l2, .int n4, .int n5]), .one (.int 3)]) fun o4 l4 n7 n8 b1 => bif b1 then cOV [.cub 1] true [.int .i64, .sl 1] (Fsl02Bend [.one (.bx [.sl false o4 1 l4, .int n7, .int n8]), .agg [.int n6, .sl true none 1 l3]]) fun o5 l5 n9 n10 n11 o6 l6 => fr false 1 [.agg [.int n11, .sl true none 1 l6]] else fr false 1 [.agg [.int n6, .sl true none 1 l3]]) (by simp [e, e2]) ?_
    refine ok_prog hc (by omega) fun p c1 hc1 hp => ok_once hc1 fun b c2 hc2 => ?_
    cases b with
    | true => exact ok_bend hc2 hp fun p' c3 _ hp' => ok_eq (r := (.agg (encProg true p'), [.one .unk])) (by simp) ⟨p', rfl, hp'⟩
    | false => exact ok_eq (r := (.agg (encProg true p), [.one .unk])) (by simp) ⟨p, rfl, by have := hp.1; omega, hp.2⟩
  obtain ⟨r, h1, x, rfl, h2⟩ := key
  exact ⟨x, h1, h2⟩
end Go.Proofs.Gh.Gm
