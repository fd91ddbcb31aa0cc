/- The program's functions by the ghost evaluator: what each computes, and that it does. -/
import Derived.Test.YtmpnmcnjhpekaaaGh47
import Derived.Test.YtmpnmcnjhpekaaaGh48
import Derived.Test.YtmpnmcnjhpekaaaGh45
import Derived.Test.YtmpnmcnjhpekaaaProg
import Derived.KernelRfl
set_option linter.unusedVariables false
set_option linter.unusedSimpArgs false
set_option maxRecDepth 100000
set_option maxHeartbeats 2000000
namespace Go.Proofs.Gh.Gm
def tys_k1 : List (Nat × TI) := [(3, ⟨false, 8, [.int .i64], [.int 0], .scalar, false, none⟩),
  (4, ⟨false, 1, [.bool], [.bool false], .scalar, false, none⟩),
  (23, ⟨false, 24, [.sl 1], [.sl true (some true) 1 []], .slice 3, false, none⟩)]
theorem tys_k1_eq : tys_k1.map (fun x => tiOf Go.Proofs.Try.prog x.1 x.2.cks) = tys_k1.map fun x => some x.2 := by kernel_rfl
theorem follows : Go.Proofs.Try.prog.follows .mixedOrders = true := by kernel_rfl
abbrev encInt (n : Int) : List C := [.int n]
@[simp] theorem encInt_free (l : List Int) : rowsFree (l.map encInt) = true := rowsFree_map fun _ _ => rfl
@[simp] theorem encInt_freeze (l : List Int) : freezeRows (l.map encInt) = l.map encInt := freezeRows_map fun _ _ => rfl
theorem encInt_plain (x : Int) : (encInt x).length = 1 ∧ ∀ c ∈ encInt x, ∃ v : Value, c = .v v := ⟨rfl, by intro c hc; simp [encInt] at hc; subst hc; exact ⟨_, rfl⟩⟩
@[simp] theorem md_Int0 {l : List Int} {i : Nat} (v : Int) (hi : i < l.length) : md (l.map encInt) i 0 (.int v) = (l.set i v).map encInt := md_map hi rfl
/-! weqIntS: loop.example/g00712/laws.eqIntS -/
@[reducible] def hweqIntS_4 : Sh := ⟨[.one (.o (.sl false 1)), .one (.o (.sl false 1)), .one (.o (.i .i64))], []⟩
@[reducible] def xweqIntS_4 : List (Ex × Sh) := [(.ret, ⟨[.one (.o .b)], []⟩), (.exit 0, ⟨[.one (.o .u)], []⟩)]
noncomputable def RweqIntS_4 : KC xweqIntS_4 (hweqIntS_4.K → hweqIntS_4.K) := fun k0 k1 nx v1 v2 v3 v4 v5 => bif decide (v5 < (v2.length : Int)) then ix v5 v2 ((v2[Int.toNat v5]?).bind fun w1 => tRo [.int .i64] w1 fun n1 => ix v5 v4 ((v4[Int.toNat v5]?).bind fun w2 => tRo [.int .i64] w2 fun n2 => bif n1 != n2 then k0 false else nx v1 v2 v3 v4 (W (v5 + 1)))) else k1
noncomputable def LweqIntS_4 : Lp := ⟨4, [0, 1, 5], [4], 0, 26, hweqIntS_4, xweqIntS_4, RweqIntS_4⟩
noncomputable def QweqIntS : Fx := ⟨Go.Proofs.Try.f19, [.ro, .ro], false, mkEnv tys_k1 [] [], fun id => bif Nat.beq id 6 then .sq [0, 1, 2, 3, 4, 5, 6, 7, 8] .stop else .stop, [LweqIntS_4]⟩
noncomputable def FweqIntS : List S → Option Res := veil QweqIntS.run
noncomputable def SweqIntS : Spec := ⟨[.ro, .ro], false, FweqIntS⟩
theorem mweqIntS (x1 : Option Bool) (x2 : List (List C)) (x3 : Option Bool) (x4 : List (List C)) : FweqIntS [.one (.sl false x1 1 x2), .one (.sl false x3 1 x4)] = bif (x2.length : Int) != (x4.length : Int) then fr false 2 [.one (.bool false)] else iterC (RweqIntS_4 (fun y1 => fr false 2 [.one (.bool y1)]) (fr false 2 [.one (.bool true)])) FUEL x1 x2 x3 x4 0 := Fx.eq (by kernel_rfl)
theorem stweqIntS_4 : LweqIntS_4.Step QweqIntS.E QweqIntS.dr QweqIntS.lp ((findLoop 4 QweqIntS.code).getD .skip) := fun k nx v => by kernel_rfl
theorem okweqIntS : CalleeOk Go.Proofs.Try.prog 19 SweqIntS := Fx.ok (F := QweqIntS) follows (envTy_mk tys_k1_eq) (envSpec_of (specsOk_nil)) Go.Proofs.Try.func19 (by kernel_rfl) (by kernel_rfl) (by
  rw [show subs QweqIntS.code = [(findLoop 4 QweqIntS.code).getD .skip] by kernel_rfl]
  exact ⟨stepAt_some (by kernel_rfl) stweqIntS_4, trivial⟩) (by kernel_rfl) (by kernel_rfl) rfl
theorem FweqIntS_at (nl : Option Bool) (a : List Int) (nl' : Option Bool) (b : List Int) (h : a.length < 4611686018427387904) : FweqIntS [S.one (C.sl false nl 1 (a.map encInt)), S.one (C.sl false nl' 1 (b.map encInt))] = some (S.one (C.bool (decide (a = b))), [S.one C.unk, S.one C.unk]) := by
  rw [mweqIntS]
  by_cases hl : a.length = b.length
  · have e1 : (((a.map encInt).length : Int) != ((b.map encInt).length : Int)) = false := by simp [hl]
    rw [e1, cond_false]
    refine (iter_eq (h := hweqIntS_4) a b (fun i f => f nl (a.map encInt) nl' (b.map encInt) (i : Int)) (fr false 2 [.one (.bool true)]) (fr false 2 [.one (.bool false)]) h hl ?_ ?_).trans ?_
    · intro nx; simp [RweqIntS_4]
    · intro nx i hi hi' hW
      have e' : (a[i] == b[i]) = decide (a[i] = b[i]) := by by_cases e : a[i] = b[i] <;> simp [e]
      simp [RweqIntS_4, hi, hi', hW, bne, e']
      try (cases decide (a[i] = b[i]) <;> simp)
    · by_cases e : a = b <;> simp [e]
  · have e1 : (((a.map encInt).length : Int) != ((b.map encInt).length : Int)) = true := by simp; omega
    have e2 : ¬ a = b := fun e => hl (by rw [e])
    rw [e1]; simp [e2]
def mkIntS (n : Nat) (k : Int) : List Int := (List.range n).map fun (i : Nat) => k + (i : Int)
@[simp] theorem mkIntS_len (n : Nat) (k : Int) : (mkIntS n k).length = n := by simp [mkIntS]
/-! wmarkIntS: loop.example/g00712/laws.markIntS -/
@[reducible] def hwmarkIntS_2 : Sh := ⟨[.one (.o (.al 0 0 [])), .one (.o (.i .i64)), .one (.o (.i .i64))], [(false, [.o (.sl true 1)])]⟩
@[reducible] def xwmarkIntS_2 : List (Ex × Sh) := [(.exit 0, ⟨[.one (.o (.i .i64))], [(false, [.o (.sl true 1)])]⟩)]
noncomputable def RwmarkIntS_2 : KC xwmarkIntS_2 (hwmarkIntS_2.K → hwmarkIntS_2.K) := fun k0 nx v1 v2 v3 v4 => bif decide (v2 < (v4.length : Int)) then ix v2 v4 (oc (.int .i64) v4 (Int.toNat v2) 0 ((let e1 : List (List C) := md v4 (Int.toNat v2) 0 (.int v1); nx (W (v1 + 1)) (W (v2 + 1)) v3 e1))) else k0 v1 v3 v4
noncomputable def LwmarkIntS_2 : Lp := ⟨2, [0, 1, 5], [1], 1, 19, hwmarkIntS_2, xwmarkIntS_2, RwmarkIntS_2⟩
noncomputable def QwmarkIntS : Fx := ⟨Go.Proofs.Try.f25, [.io, .ro], false, mkEnv tys_k1 [] [], fun _ => .stop, [LwmarkIntS_2]⟩
noncomputable def FwmarkIntS : List S → Option Res := veil QwmarkIntS.run
noncomputable def SwmarkIntS : Spec := ⟨[.io, .ro], false, FwmarkIntS⟩
theorem mwmarkIntS (x1 : Option Bool) (x2 : List (List C)) (x3 : Int) : FwmarkIntS [.one (.sl true x1 1 x2), .one (.int x3)] = iterC (RwmarkIntS_2 (fun y1 y2 y3 => fin false [.one (.sl true x1 1 x2), .one (.int x3)] [.one (.int y1)] [.one (.sl true y2 1 y3), .one .unk])) FUEL x3 0 x1 x2 := Fx.eq (by kernel_rfl)
theorem stwmarkIntS_2 : LwmarkIntS_2.Step QwmarkIntS.E QwmarkIntS.dr QwmarkIntS.lp ((findLoop 2 QwmarkIntS.code).getD .skip) := fun k nx v => by kernel_rfl
theorem okwmarkIntS : CalleeOk Go.Proofs.Try.prog 25 SwmarkIntS := Fx.ok (F := QwmarkIntS) follows (envTy_mk tys_k1_eq) (envSpec_of (specsOk_nil)) Go.Proofs.Try.func25 (by kernel_rfl) (by kernel_rfl) (by
  rw [show subs QwmarkIntS.code = [(findLoop 2 QwmarkIntS.code).getD .skip] by kernel_rfl]
  exact ⟨stepAt_some (by kernel_rfl) stwmarkIntS_2, trivial⟩) (by kernel_rfl) (by kernel_rfl) rfl
theorem FwmarkIntS_at (nl : Option Bool) (l : List Int) (k : Int) (h : l.length ≤ 1048576 ∧ 0 ≤ k ∧ k ≤ 1152921504606846976) : FwmarkIntS [S.one (C.sl true nl 1 (l.map encInt)), S.one (C.int k)] = some (S.one (C.int (k + (l.length : Int))), [S.one (C.sl true nl 1 ((mkIntS l.length k).map encInt)), S.one C.unk]) := by
  rw [mwmarkIntS]
  have key : ∀ k0 : Int → Option Bool → List (List C) → Option Res, iterC (RwmarkIntS_2 k0) FUEL k 0 nl (l.map encInt) = k0 (k + (l.length : Int)) nl ((mkIntS l.length k).map encInt) := fun k0 => by
    have := iter_set (h := hwmarkIntS_2) (fb := RwmarkIntS_2 k0) l (fun (i : Nat) => (k + (i : Int) : Int)) (fun i a f => f (k + (i : Int)) (i : Int) nl (a.map encInt)) (fun a => k0 (k + (l.length : Int)) nl (a.map encInt)) (by omega) ?_ ?_
    · simpa [mkIntS] using this
    · intro nx a ha
      simp [RwmarkIntS_2, ha]
    · intro nx i a hi ha hW
      have w0 : W (k + (i : Int) + 1) = k + (i : Int) + 1 := by rw [W_eq (by omega) (by omega)]
      have w : k + ((i : Int) + 1) = k + (i : Int) + 1 := by omega
      simp [-List.map_set, RwmarkIntS_2, hi, hW, w, w0]
  rw [key]
  simp
/-! wheldIntS: loop.example/g00712/laws.heldIntS -/
@[reducible] def hwheldIntS_2 : Sh := ⟨[.one (.o (.sl false 1)), .one (.o (.i .i64)), .one (.o (.i .i64))], []⟩
@[reducible] def xwheldIntS_2 : List (Ex × Sh) := [(.ret, ⟨[.one (.o (.i .i64)), .one (.o (.i .i64))], []⟩), (.exit 0, ⟨[.one (.o (.i .i64)), .one (.o .u)], []⟩)]
noncomputable def RwheldIntS_2 : KC xwheldIntS_2 (hwheldIntS_2.K → hwheldIntS_2.K) := fun k0 k1 nx v1 v2 v3 v4 => bif decide (v4 < (v2.length : Int)) then ix v4 v2 ((v2[Int.toNat v4]?).bind fun w1 => tRo [.int .i64] w1 fun n1 => bif n1 != v3 then k0 v3 (-1) else nx v1 v2 (W (v3 + 1)) (W (v4 + 1))) else k1 v3
noncomputable def LwheldIntS_2 : Lp := ⟨2, [0, 1, 5], [1, 4], 0, 21, hwheldIntS_2, xwheldIntS_2, RwheldIntS_2⟩
noncomputable def QwheldIntS : Fx := ⟨Go.Proofs.Try.f26, [.ro, .ro], false, mkEnv tys_k1 [] [], fun _ => .stop, [LwheldIntS_2]⟩
noncomputable def FwheldIntS : List S → Option Res := veil QwheldIntS.run
noncomputable def SwheldIntS : Spec := ⟨[.ro, .ro], false, FwheldIntS⟩
theorem mwheldIntS (x1 : Option Bool) (x2 : List (List C)) (x3 : Int) : FwheldIntS [.one (.sl false x1 1 x2), .one (.int x3)] = iterC (RwheldIntS_2 (fun y1 y2 => fr false 2 [.one (.int y2)]) (fun y3 => fr false 2 [.one (.int y3)])) FUEL x1 x2 x3 0 := Fx.eq (by kernel_rfl)
theorem stwheldIntS_2 : LwheldIntS_2.Step QwheldIntS.E QwheldIntS.dr QwheldIntS.lp ((findLoop 2 QwheldIntS.code).getD .skip) := fun k nx v => by kernel_rfl
theorem okwheldIntS : CalleeOk Go.Proofs.Try.prog 26 SwheldIntS := Fx.ok (F := QwheldIntS) follows (envTy_mk tys_k1_eq) (envSpec_of (specsOk_nil)) Go.Proofs.Try.func26 (by kernel_rfl) (by kernel_rfl) (by
  rw [show subs QwheldIntS.code = [(findLoop 2 QwheldIntS.code).getD .skip] by kernel_rfl]
  exact ⟨stepAt_some (by kernel_rfl) stwheldIntS_2, trivial⟩) (by kernel_rfl) (by kernel_rfl) rfl
theorem FwheldIntS_at (nl : Option Bool) (n : Nat) (k : Int) (h : n ≤ 1048576 ∧ 0 ≤ k ∧ k ≤ 1152921504606846976) : FwheldIntS [S.one (C.sl false nl 1 ((mkIntS n k).map encInt)), S.one (C.int k)] = some (S.one (C.int (k + (n : Int))), [S.one C.unk, S.one C.unk]) := by
  rw [mwheldIntS]
  have := iter_all (h := hwheldIntS_2) (fb := RwheldIntS_2 (fun y1 y2 => fr false 2 [.one (.int y2)]) (fun y3 => fr false 2 [.one (.int y3)])) (mkIntS n k) (fun i f => f nl ((mkIntS n k).map encInt) (k + (i : Int)) (i : Int)) (fun _ => true) (fr false 2 [.one (.int (k + (n : Int)))]) none (by simp; omega) ?_ ?_
  · simpa using this
  · intro nx; simp [RwheldIntS_2]
  · intro nx i hi hW
    have hi' : i < n := by simpa using hi
    have w0 : W (k + (i : Int) + 1) = k + (i : Int) + 1 := by rw [W_eq (by omega) (by omega)]
    have w : k + ((i : Int) + 1) = k + (i : Int) + 1 := by omega
    simp [RwheldIntS_2, mkIntS, hi', hW, w, w0]
@[ext] structure Instr where
  op : Int
  r : Int
  s : Int
  n : Int
deriving DecidableEq
abbrev encInstr (c : Instr) : List C := [.int c.op, .int c.r, .int c.s, .int c.n]
@[simp] theorem encInstr_free (l : List Instr) : rowsFree (l.map encInstr) = true := rowsFree_map fun _ _ => rfl
@[simp] theorem encInstr_freeze (l : List Instr) : freezeRows (l.map encInstr) = l.map encInstr := freezeRows_map fun _ _ => rfl
theorem encInstr_plain (x : Instr) : (encInstr x).length = 4 ∧ ∀ c ∈ encInstr x, ∃ v : Value, c = .v v := ⟨rfl, by intro c hc; simp [encInstr] at hc; rcases hc with rfl | rfl | rfl | rfl <;> exact ⟨_, rfl⟩⟩
@[simp] theorem md_Instr0 {l : List Instr} {i : Nat} (v : Int) (hi : i < l.length) : md (l.map encInstr) i 0 (.int v) = (l.set i ⟨v, l[i].r, l[i].s, l[i].n⟩).map encInstr := md_map hi rfl
@[simp] theorem md_Instr1 {l : List Instr} {i : Nat} (v : Int) (hi : i < l.length) : md (l.map encInstr) i 1 (.int v) = (l.set i ⟨l[i].op, v, l[i].s, l[i].n⟩).map encInstr := md_map hi rfl
@[simp] theorem md_Instr2 {l : List Instr} {i : Nat} (v : Int) (hi : i < l.length) : md (l.map encInstr) i 2 (.int v) = (l.set i ⟨l[i].op, l[i].r, v, l[i].n⟩).map encInstr := md_map hi rfl
@[simp] theorem md_Instr3 {l : List Instr} {i : Nat} (v : Int) (hi : i < l.length) : md (l.map encInstr) i 3 (.int v) = (l.set i ⟨l[i].op, l[i].r, l[i].s, v⟩).map encInstr := md_map hi rfl
def mkInstrS (n : Nat) (k : Int) : List Instr := (List.range n).map fun (i : Nat) => ⟨k + 4 * (i : Int), k + 4 * (i : Int) + 1, k + 4 * (i : Int) + 2, k + 4 * (i : Int) + 3⟩
@[simp] theorem mkInstrS_len (n : Nat) (k : Int) : (mkInstrS n k).length = n := by simp [mkInstrS]
@[ext] structure Slot where
  a : Int
  v : Int
deriving DecidableEq
abbrev encSlot (c : Slot) : List C := [.int c.a, .int c.v]
@[simp] theorem encSlot_free (l : List Slot) : rowsFree (l.map encSlot) = true := rowsFree_map fun _ _ => rfl
@[simp] theorem encSlot_freeze (l : List Slot) : freezeRows (l.map encSlot) = l.map encSlot := freezeRows_map fun _ _ => rfl
theorem encSlot_plain (x : Slot) : (encSlot x).length = 2 ∧ ∀ c ∈ encSlot x, ∃ v : Value, c = .v v := ⟨rfl, by intro c hc; simp [encSlot] at hc; rcases hc with rfl | rfl <;> exact ⟨_, rfl⟩⟩
@[simp] theorem md_Slot0 {l : List Slot} {i : Nat} (v : Int) (hi : i < l.length) : md (l.map encSlot) i 0 (.int v) = (l.set i ⟨v, l[i].v⟩).map encSlot := md_map hi rfl
@[simp] theorem md_Slot1 {l : List Slot} {i : Nat} (v : Int) (hi : i < l.length) : md (l.map encSlot) i 1 (.int v) = (l.set i ⟨l[i].a, v⟩).map encSlot := md_map hi rfl
def mkSlotS (n : Nat) (k : Int) : List Slot := (List.range n).map fun (i : Nat) => ⟨k + 2 * (i : Int), k + 2 * (i : Int) + 1⟩
@[simp] theorem mkSlotS_len (n : Nat) (k : Int) : (mkSlotS n k).length = n := by simp [mkSlotS]
@[ext] structure Move where
  t : Int
  drain : Bool
deriving DecidableEq
abbrev encMove (c : Move) : List C := [.int c.t, .bool c.drain]
@[simp] theorem encMove_free (l : List Move) : rowsFree (l.map encMove) = true := rowsFree_map fun _ _ => rfl
@[simp] theorem encMove_freeze (l : List Move) : freezeRows (l.map encMove) = l.map encMove := freezeRows_map fun _ _ => rfl
theorem encMove_plain (x : Move) : (encMove x).length = 2 ∧ ∀ c ∈ encMove x, ∃ v : Value, c = .v v := ⟨rfl, by intro c hc; simp [encMove] at hc; rcases hc with rfl | rfl <;> exact ⟨_, rfl⟩⟩
@[simp] theorem md_Move0 {l : List Move} {i : Nat} (v : Int) (hi : i < l.length) : md (l.map encMove) i 0 (.int v) = (l.set i ⟨v, l[i].drain⟩).map encMove := md_map hi rfl
@[simp] theorem md_Move1 {l : List Move} {i : Nat} (v : Bool) (hi : i < l.length) : md (l.map encMove) i 1 (.bool v) = (l.set i ⟨l[i].t, v⟩).map encMove := md_map hi rfl
def mkMoveS (n : Nat) (k : Int) : List Move := (List.range n).map fun (i : Nat) => ⟨k + 2 * (i : Int), (Int.tmod (k + 2 * (i : Int) + 1) 3 == 0)⟩
@[simp] theorem mkMoveS_len (n : Nat) (k : Int) : (mkMoveS n k).length = n := by simp [mkMoveS]
end Go.Proofs.Gh.Gm
set_option linter.unusedVariables false
set_option linter.unusedSimpArgs false
set_option maxRecDepth 100000
set_option maxHeartbeats 2000000
namespace Go.Proofs.Gh.Gm
def tys_k2 : List (Nat × TI) := []
theorem tys_k2_eq : tys_k2.map (fun x => tiOf Go.Proofs.Try.prog x.1 x.2.cks) = tys_k2.map fun x => some x.2 := by kernel_rfl
abbrev encCode (own : Bool) (c : List Instr) : List C := [.sl own none 4 (c.map encInstr)]
@[simp] theorem encCode_free (l : List (List Instr)) : rowsFree (l.map (encCode true)) = true := rowsFree_map fun _ _ => by simp
@[simp] theorem encCode_freeze (l : List (List Instr)) : freezeRows (l.map (encCode true)) = l.map (encCode false) := freezeRows_map fun _ _ => by simp [freezeRow, C.freeze]
@[simp] theorem md_Code {l : List (List Instr)} {i : Nat} (v : List Instr) (hi : i < l.length) : md (l.map (encCode true)) i 0 (.sl true none 4 (v.map encInstr)) = (l.set i v).map (encCode true) := md_map hi rfl
structure Prog where
  cells : Int
  codes : List (List Instr)
deriving DecidableEq
abbrev encProg (own : Bool) (p : Prog) : List C := [.int p.cells, .sl own none 1 (p.codes.map (encCode own))]
def sumL {α : Type} (l : List (List α)) : Nat := (l.map List.length).sum
@[simp] theorem sumL_nil {α : Type} : sumL ([] : List (List α)) = 0 := rfl
@[simp] theorem sumL_cons {α : Type} (c : List α) (l : List (List α)) : sumL (c :: l) = c.length + sumL l := by simp [sumL]
def bndL {α : Type} (l : List (List α)) : Prop := l.length ≤ 4611686018427387903 ∧ ∀ c ∈ l, c.length ≤ 4611686018427387903
def bndZ {α : Type} (l : List (List α)) : Prop := l.length ≤ 9223372036854775807 ∧ ∀ c ∈ l, c.length ≤ 9223372036854775807
theorem sumL_mem {α : Type} {l : List (List α)} {c : List α} (h : c ∈ l) : c.length ≤ sumL l := by
  induction l with
  | nil => cases h
  | cons a l ih => rcases List.mem_cons.1 h with rfl | h <;> simp; have := ih h; omega
def take0 (s : Nat) (n : Int) : Int := if (s : Int) ≤ n then n - s else -1
def mkCodes : List (List Instr) → Int → List (List Instr)
  | [], _ => []
  | c :: cs, k => mkInstrS c.length k :: mkCodes cs (k + 4 * c.length)
end Go.Proofs.Gh.Gm
set_option linter.unusedVariables false
set_option linter.unusedSimpArgs false
set_option maxRecDepth 100000
set_option maxHeartbeats 2000000
namespace Go.Proofs.Gh.Gm
def tys_k3 : List (Nat × TI) := []
theorem tys_k3_eq : tys_k3.map (fun x => tiOf Go.Proofs.Try.prog x.1 x.2.cks) = tys_k3.map fun x => some x.2 := by kernel_rfl
structure Thread where
  pc : Int
  vals : List Int
  buf : List Slot
deriving DecidableEq
abbrev encTh (own : Bool) (t : Thread) : List C := [.int t.pc, .sl own none 1 (t.vals.map encInt), .sl own none 2 (t.buf.map encSlot)]
@[simp] theorem encTh_free (l : List Thread) : rowsFree (l.map (encTh true)) = true := rowsFree_map fun _ _ => by simp
@[simp] theorem encTh_freeze (l : List Thread) : freezeRows (l.map (encTh true)) = l.map (encTh false) := freezeRows_map fun _ _ => by simp [freezeRow, C.freeze]
structure Machine where
  cells : List Int
  ths : List Thread
deriving DecidableEq
abbrev encMa (own : Bool) (m : Machine) : List C := [.sl own none 1 (m.cells.map encInt), .sl own none 3 (m.ths.map (encTh own))]
def bndT (l : List Thread) : Prop := l.length ≤ 4611686018427387903 ∧ ∀ t ∈ l, t.vals.length ≤ 4611686018427387903 ∧ t.buf.length ≤ 4611686018427387903
def thN (t : Thread) : Int := 1 + t.vals.length + 2 * t.buf.length
theorem thN_pos (t : Thread) : 0 < thN t := by unfold thN; omega
def thsN : List Thread → Int
  | [] => 0
  | t :: ts => thN t + thsN ts
theorem thsN_pos : ∀ l, 0 ≤ thsN l
  | [] => by simp [thsN]
  | t :: l => by have := thN_pos t; have := thsN_pos l; simp only [thsN]; omega
def mkTh (t : Thread) (k : Int) : Thread := ⟨k, mkIntS t.vals.length (k + 1), mkSlotS t.buf.length (k + 1 + t.vals.length)⟩
def mkThs : List Thread → Int → List Thread
  | [], _ => []
  | t :: ts, k => mkTh t k :: mkThs ts (k + thN t)
@[simp] theorem mkThs_len : ∀ (l : List Thread) (k : Int), (mkThs l k).length = l.length
  | [], _ => rfl
  | t :: l, k => by simp [mkThs, mkThs_len l]
theorem thN_mem {l : List Thread} {t : Thread} (h : t ∈ l) : thN t ≤ thsN l := by
  induction l with
  | nil => cases h
  | cons a l ih =>
    have := thsN_pos l; have := thN_pos a
    rcases List.mem_cons.1 h with rfl | h
    · simp only [thsN]; omega
    · have := ih h; simp only [thsN]; omega
def bT (l : List Thread) : Prop := l.length ≤ 1048576 ∧ ∀ t ∈ l, t.vals.length ≤ 1048576 ∧ t.buf.length ≤ 1048576
@[simp] theorem md_Th0 {l : List Thread} {i : Nat} (v : Int) (hi : i < l.length) : md (l.map (encTh true)) i 0 (.int v) = (l.set i ⟨v, l[i].vals, l[i].buf⟩).map (encTh true) := md_map hi rfl
@[simp] theorem md_Th1 {l : List Thread} {i : Nat} (v : List Int) (hi : i < l.length) : md (l.map (encTh true)) i 1 (.sl true none 1 (v.map encInt)) = (l.set i ⟨l[i].pc, v, l[i].buf⟩).map (encTh true) := md_map hi rfl
@[simp] theorem md_Th2 {l : List Thread} {i : Nat} (v : List Slot) (hi : i < l.length) : md (l.map (encTh true)) i 2 (.sl true none 2 (v.map encSlot)) = (l.set i ⟨l[i].pc, l[i].vals, v⟩).map (encTh true) := md_map hi rfl
end Go.Proofs.Gh.Gm
set_option linter.unusedVariables false
set_option linter.unusedSimpArgs false
set_option maxRecDepth 100000
set_option maxHeartbeats 2000000
namespace Go.Proofs.Gh.Gm
def tys_m1 : List (Nat × TI) := [(3, ⟨false, 8, [.int .i64], [.int 0], .scalar, false, none⟩),
  (4, ⟨false, 1, [.bool], [.bool false], .scalar, false, none⟩),
  (23, ⟨false, 24, [.sl 1], [.sl true (some true) 1 []], .slice 3, false, none⟩),
  (64, ⟨false, 24, [.sl 1], [.sl true (some true) 1 []], .slice 69, false, none⟩),
  (66, ⟨true, 32, [.int .i64, .sl 1], [.int 0, .sl true (some true) 1 []], .struct [(0, 1, false), (1, 1, false)], false, none⟩),
  (69, ⟨false, 24, [.sl 4], [.sl true (some true) 4 []], .slice 135, false, none⟩),
  (71, ⟨true, 24, [.sl 1], [.sl true (some true) 1 []], .struct [(0, 1, false)], false, none⟩),
  (82, ⟨false, 24, [.sl 2], [.sl true (some true) 2 []], .slice 144, false, none⟩),
  (122, ⟨false, 8, [.other], [.v Value.nilFunc], .scalar, false, none⟩),
  (135, ⟨true, 32, [.int .i64, .int .i64, .int .i64, .int .i64], [.int 0, .int 0, .int 0, .int 0], .struct [(0, 1, false), (1, 1, false), (2, 1, false), (3, 1, false)], true, none⟩),
  (144, ⟨true, 16, [.int .i64, .int .i64], [.int 0, .int 0], .struct [(0, 1, false), (1, 1, false)], true, none⟩),
  (175, ⟨false, 8, [.other], [.v Value.nilFunc], .scalar, false, none⟩),
  (197, ⟨false, 8, [.other], [.v Value.nilFunc], .scalar, false, none⟩)]
theorem tys_m1_eq : tys_m1.map (fun x => tiOf Go.Proofs.Try.prog x.1 x.2.cks) = tys_m1.map fun x => some x.2 := by kernel_rfl
def isV (n : Int) : Bool := inB n (-1000000) 1000000
def memOk (c : List Int) : Bool := inB c.length 1 16 && c.all isV
def slotOk (s : Slot) : Bool := inB s.a 0 15 && isV s.v
def bufOk (b : List Slot) : Bool := decide (b.length ≤ 3) && b.all slotOk
def useR (o : Int) : Bool := o != 4
def useS (o : Int) : Bool := o == 1 || o == 8 || o == 5 || o == 7
def useN (o : Int) : Bool := o != 1 && o != 8 && o != 4
def instrOk (i : Instr) (cells size : Int) : Bool :=
  inB cells 1 16 && inB size 0 16 && inB i.op 0 8 && inB i.r 0 3 && inB i.s 0 3 && (useR i.op || i.r == 0) && (useS i.op || i.s == 0) &&
    (bif !useN i.op then i.n == 0 else bif i.op == 0 then inB i.n (-1000) 1000 else bif i.op == 6 then inB i.n 0 size else inB i.n 0 (cells - 1))
def codeOk (cells : Int) (c : List Instr) : Bool := decide (c.length ≤ 16) && c.all fun i => instrOk i cells c.length
def progOk (p : Prog) : Bool := inB p.cells 1 16 && inB p.codes.length 1 3 && p.codes.all (codeOk p.cells)
def thOk (cells : Int) (t : Thread) (c : List Instr) : Bool := inB t.pc 0 c.length && t.vals.length == 4 && t.vals.all isV && bufOk t.buf && t.buf.all fun s => decide (s.a < cells)
def isMa (p : Prog) (m : Machine) : Bool := memOk m.cells && decide ((m.cells.length : Int) = p.cells) && decide (m.ths.length = p.codes.length) && (m.ths.zip p.codes).all fun x => thOk p.cells x.1 x.2
def fenceI (i : Instr) : Bool := i.op == 4 || i.op == 5 || i.op == 7
theorem any_not {α : Type} (p : α → Bool) (l : List α) : (!l.any fun x => !p x) = l.all p := by induction l <;> simp_all
abbrev smallL {α : Type} (l : List α) : Prop := l.length ≤ 4611686018427387903
/-! iwithin: loop.example/g00712/impl.within -/
noncomputable def Qiwithin : Fx := ⟨Go.Proofs.Try.f85, [.ro, .ro, .ro], false, mkEnv tys_m1 [] [], fun _ => .stop, []⟩
noncomputable def Fiwithin : List S → Option Res := veil Qiwithin.run
noncomputable def Siwithin : Spec := ⟨[.ro, .ro, .ro], false, Fiwithin⟩
theorem miwithin (x1 : Int) (x2 : Int) (x3 : Int) : Fiwithin [.one (.int x1), .one (.int x2), .one (.int x3)] = bif decide (x1 ≥ x2) then fr false 3 [.one (.bool (decide (x1 ≤ x3)))] else fr false 3 [.one (.bool false)] := Fx.eq (by kernel_rfl)
theorem okiwithin : CalleeOk Go.Proofs.Try.prog 85 Siwithin := Fx.ok (F := Qiwithin) follows (envTy_mk tys_m1_eq) (envSpec_of (specsOk_nil)) Go.Proofs.Try.func85 (by kernel_rfl) (by kernel_rfl) (by rw [show subs Qiwithin.code = [] by kernel_rfl]; trivial) (by kernel_rfl) (by kernel_rfl) rfl
theorem Fiwithin_at (n a b : Int) : Fiwithin [S.one (C.int n), S.one (C.int a), S.one (C.int b)] = some (S.one (C.bool (inB n a b)), [S.one C.unk, S.one C.unk, S.one C.unk]) := by
  by_cases h1 : a ≤ n <;> simp [miwithin, inB, h1]
/-! sl01In: loop.example/g00712/spec.l01In -/
noncomputable def Qsl01In : Fx := ⟨Go.Proofs.Try.f63, [.ro, .ro, .ro], false, mkEnv tys_m1 [] [], fun _ => .stop, []⟩
noncomputable def Fsl01In : List S → Option Res := veil Qsl01In.run
noncomputable def Ssl01In : Spec := ⟨[.ro, .ro, .ro], false, Fsl01In⟩
theorem msl01In (x1 : Int) (x2 : Int) (x3 : Int) : Fsl01In [.one (.int x1), .one (.int x2), .one (.int x3)] = bif decide (x2 ≤ x1) then fr false 3 [.one (.bool (decide (x1 ≤ x3)))] else fr false 3 [.one (.bool false)] := Fx.eq (by kernel_rfl)
theorem oksl01In : CalleeOk Go.Proofs.Try.prog 63 Ssl01In := Fx.ok (F := Qsl01In) follows (envTy_mk tys_m1_eq) (envSpec_of (specsOk_nil)) Go.Proofs.Try.func63 (by kernel_rfl) (by kernel_rfl) (by rw [show subs Qsl01In.code = [] by kernel_rfl]; trivial) (by kernel_rfl) (by kernel_rfl) rfl
theorem Fsl01In_at (n a b : Int) : Fsl01In [S.one (C.int n), S.one (C.int a), S.one (C.int b)] = some (S.one (C.bool (inB n a b)), [S.one C.unk, S.one C.unk, S.one C.unk]) := by
  by_cases h1 : a ≤ n <;> simp [msl01In, inB, h1]
/-! iisValue: loop.example/g00712/impl.isValue -/
noncomputable def QiisValue : Fx := ⟨Go.Proofs.Try.f174, [.ro], false, mkEnv tys_m1 [(85, Siwithin)] [], fun _ => .stop, []⟩
noncomputable def FiisValue : List S → Option Res := veil QiisValue.run
noncomputable def SiisValue : Spec := ⟨[.ro], false, FiisValue⟩
theorem miisValue (x1 : Int) : FiisValue [.one (.int x1)] = cV false [.bool] (Fiwithin [.one (.int x1), .one (.int (-1000000)), .one (.int 1000000)]) fun b1 => fr false 1 [.one (.bool b1)] := Fx.eq (by kernel_rfl)
theorem okiisValue : CalleeOk Go.Proofs.Try.prog 174 SiisValue := Fx.ok (F := QiisValue) follows (envTy_mk tys_m1_eq) (envSpec_of (specsOk_cons okiwithin specsOk_nil)) Go.Proofs.Try.func174 (by kernel_rfl) (by kernel_rfl) (by rw [show subs QiisValue.code = [] by kernel_rfl]; trivial) (by kernel_rfl) (by kernel_rfl) rfl
theorem FiisValue_at (n : Int) : FiisValue [S.one (C.int n)] = some (S.one (C.bool (isV n)), [S.one C.unk]) := by
  simp [miisValue, Fiwithin_at, isV]
/-! sl01Value: loop.example/g00712/spec.l01Value -/
noncomputable def Qsl01Value : Fx := ⟨Go.Proofs.Try.f115, [.ro], false, mkEnv tys_m1 [(63, Ssl01In)] [], fun _ => .stop, []⟩
noncomputable def Fsl01Value : List S → Option Res := veil Qsl01Value.run
noncomputable def Ssl01Value : Spec := ⟨[.ro], false, Fsl01Value⟩
theorem msl01Value (x1 : Int) : Fsl01Value [.one (.int x1)] = cV false [.bool] (Fsl01In [.one (.int x1), .one (.int (-1000000)), .one (.int 1000000)]) fun b1 => fr false 1 [.one (.bool b1)] := Fx.eq (by kernel_rfl)
theorem oksl01Value : CalleeOk Go.Proofs.Try.prog 115 Ssl01Value := Fx.ok (F := Qsl01Value) follows (envTy_mk tys_m1_eq) (envSpec_of (specsOk_cons oksl01In specsOk_nil)) Go.Proofs.Try.func115 (by kernel_rfl) (by kernel_rfl) (by rw [show subs Qsl01Value.code = [] by kernel_rfl]; trivial) (by kernel_rfl) (by kernel_rfl) rfl
theorem Fsl01Value_at (n : Int) : Fsl01Value [S.one (C.int n)] = some (S.one (C.bool (isV n)), [S.one C.unk]) := by
  simp [msl01Value, Fsl01In_at, isV]
/-! iareValues_1: loop.example/g00712/impl.areValues$1 -/
noncomputable def QiareValues_1 : Fx := ⟨Go.Proofs.Try.f197, [.ro], false, mkEnv tys_m1 [(174, SiisValue)] [], fun _ => .stop, []⟩
noncomputable def FiareValues_1 : List S → Option Res := veil QiareValues_1.run
noncomputable def SiareValues_1 : Spec := ⟨[.ro], false, FiareValues_1⟩
theorem miareValues_1 (x1 : Int) : FiareValues_1 [.one (.int x1)] = cV false [.bool] (FiisValue [.one (.int x1)]) fun b1 => fr false 1 [.one (.bool (!b1))] := Fx.eq (by kernel_rfl)
theorem okiareValues_1 : CalleeOk Go.Proofs.Try.prog 197 SiareValues_1 := Fx.ok (F := QiareValues_1) follows (envTy_mk tys_m1_eq) (envSpec_of (specsOk_cons okiisValue specsOk_nil)) Go.Proofs.Try.func197 (by kernel_rfl) (by kernel_rfl) (by rw [show subs QiareValues_1.code = [] by kernel_rfl]; trivial) (by kernel_rfl) (by kernel_rfl) rfl
theorem FiareValues_1_at (n : Int) : FiareValues_1 [S.one (C.int n)] = some (S.one (C.bool (!isV n)), [S.one C.unk]) := by
  simp [miareValues_1, FiisValue_at]
/-! slicesIndexFunc_int_iareValues_1: slices.IndexFunc[[]int,int] -/
@[reducible] def hslicesIndexFunc_int_iareValues_1_2 : Sh := ⟨[.one (.o (.sl false 1)), .one (.fn 197 []), .one (.o (.i .i64)), .one (.o (.i .i64))], []⟩
@[reducible] def xslicesIndexFunc_int_iareValues_1_2 : List (Ex × Sh) := [(.ret, ⟨[.one (.o (.i .i64))], []⟩), (.exit 0, ⟨[.one (.o .u)], []⟩)]
noncomputable def RslicesIndexFunc_int_iareValues_1_2 : KC xslicesIndexFunc_int_iareValues_1_2 (hslicesIndexFunc_int_iareValues_1_2.K → hslicesIndexFunc_int_iareValues_1_2.K) := fun k0 k1 nx v1 v2 v3 v4 => bif decide (v4 < v3) then ix v4 v2 ((v2[Int.toNat v4]?).bind fun w1 => tRo [.int .i64] w1 fun n1 => cV false [.bool] (FiareValues_1 [.one (.int n1)]) fun b1 => bif b1 then k0 v4 else nx v1 v2 v3 (W (v4 + 1))) else k1
noncomputable def LslicesIndexFunc_int_iareValues_1_2 : Lp := ⟨2, [0, 1, 7, 8], [4], 0, 19, hslicesIndexFunc_int_iareValues_1_2, xslicesIndexFunc_int_iareValues_1_2, RslicesIndexFunc_int_iareValues_1_2⟩
noncomputable def QslicesIndexFunc_int_iareValues_1 : Fx := ⟨Go.Proofs.Try.f168, [.ro, .ro], false, mkEnv tys_m1 [(197, SiareValues_1)] [], fun _ => .stop, [LslicesIndexFunc_int_iareValues_1_2]⟩
noncomputable def FslicesIndexFunc_int_iareValues_1 : List S → Option Res := veil QslicesIndexFunc_int_iareValues_1.run
noncomputable def SslicesIndexFunc_int_iareValues_1 : Spec := ⟨[.ro, .ro], false, FslicesIndexFunc_int_iareValues_1⟩
theorem mslicesIndexFunc_int_iareValues_1 (x1 : Option Bool) (x2 : List (List C)) : FslicesIndexFunc_int_iareValues_1 [.one (.sl false x1 1 x2), .one (.fn 197 [])] = iterC (RslicesIndexFunc_int_iareValues_1_2 (fun y1 => fr false 2 [.one (.int y1)]) (fr false 2 [.one (.int (-1))])) FUEL x1 x2 (x2.length : Int) 0 := Fx.eq (by kernel_rfl)
theorem stslicesIndexFunc_int_iareValues_1_2 : LslicesIndexFunc_int_iareValues_1_2.Step QslicesIndexFunc_int_iareValues_1.E QslicesIndexFunc_int_iareValues_1.dr QslicesIndexFunc_int_iareValues_1.lp ((findLoop 2 QslicesIndexFunc_int_iareValues_1.code).getD .skip) := fun k nx v => by kernel_rfl
theorem okslicesIndexFunc_int_iareValues_1 : CalleeOk Go.Proofs.Try.prog 168 SslicesIndexFunc_int_iareValues_1 := Fx.ok (F := QslicesIndexFunc_int_iareValues_1) follows (envTy_mk tys_m1_eq) (envSpec_of (specsOk_cons okiareValues_1 specsOk_nil)) Go.Proofs.Try.func168 (by kernel_rfl) (by kernel_rfl) (by
  rw [show subs QslicesIndexFunc_int_iareValues_1.code = [(findLoop 2 QslicesIndexFunc_int_iareValues_1.code).getD .skip] by kernel_rfl]
  exact ⟨stepAt_some (by kernel_rfl) stslicesIndexFunc_int_iareValues_1_2, trivial⟩) (by kernel_rfl) (by kernel_rfl) rfl
theorem FslicesIndexFunc_int_iareValues_1_at (nl : Option Bool) (l : List Int) (h : smallL l) : FslicesIndexFunc_int_iareValues_1 [S.one (C.sl false nl 1 (l.map encInt)), S.one (C.fn 197 [])] = some (S.one (C.int (bif l.any (fun n => !isV n) then (l.findIdx (fun n => !isV n) : Int) else -1)), [S.one C.unk, S.one C.unk]) := by
  rw [mslicesIndexFunc_int_iareValues_1]
  refine (iter_find (h := hslicesIndexFunc_int_iareValues_1_2) l (fun i f => f nl (l.map encInt) ((l.map encInt).length : Int) (i : Int)) (fun n => !isV n) (fun i => fr false 2 [.one (.int i)]) (fr false 2 [.one (.int (-1))]) (by omega) ?_ ?_).trans ?_
  · intro nx; simp [RslicesIndexFunc_int_iareValues_1_2]
  · intro nx i hi hW; simp [RslicesIndexFunc_int_iareValues_1_2, hi, hW, FiareValues_1_at]
  · cases l.any (fun n => !isV n) <;> simp
/-! slicesContainsFunc_int_iareValues_1: slices.ContainsFunc[[]int,int] -/
noncomputable def QslicesContainsFunc_int_iareValues_1 : Fx := ⟨Go.Proofs.Try.f123, [.ro, .ro], false, mkEnv tys_m1 [(168, SslicesIndexFunc_int_iareValues_1)] [], fun _ => .stop, []⟩
noncomputable def FslicesContainsFunc_int_iareValues_1 : List S → Option Res := veil QslicesContainsFunc_int_iareValues_1.run
noncomputable def SslicesContainsFunc_int_iareValues_1 : Spec := ⟨[.ro, .ro], false, FslicesContainsFunc_int_iareValues_1⟩
theorem mslicesContainsFunc_int_iareValues_1 (x1 : Option Bool) (x2 : List (List C)) : FslicesContainsFunc_int_iareValues_1 [.one (.sl false x1 1 x2), .one (.fn 197 [])] = cV false [.int .i64] (FslicesIndexFunc_int_iareValues_1 [.one (.sl false x1 1 x2), .one (.fn 197 [])]) fun n1 => fr false 2 [.one (.bool (decide (n1 ≥ 0)))] := Fx.eq (by kernel_rfl)
theorem okslicesContainsFunc_int_iareValues_1 : CalleeOk Go.Proofs.Try.prog 123 SslicesContainsFunc_int_iareValues_1 := Fx.ok (F := QslicesContainsFunc_int_iareValues_1) follows (envTy_mk tys_m1_eq) (envSpec_of (specsOk_cons okslicesIndexFunc_int_iareValues_1 specsOk_nil)) Go.Proofs.Try.func123 (by kernel_rfl) (by kernel_rfl) (by rw [show subs QslicesContainsFunc_int_iareValues_1.code = [] by kernel_rfl]; trivial) (by kernel_rfl) (by kernel_rfl) rfl
theorem FslicesContainsFunc_int_iareValues_1_at (nl : Option Bool) (l : List Int) (h : smallL l) : FslicesContainsFunc_int_iareValues_1 [S.one (C.sl false nl 1 (l.map encInt)), S.one (C.fn 197 [])] = some (S.one (C.bool (l.any fun n => !isV n)), [S.one C.unk, S.one C.unk]) := by
  rw [mslicesContainsFunc_int_iareValues_1, FslicesIndexFunc_int_iareValues_1_at _ _ h]
  cases l.any (fun n => !isV n) <;> simp
/-! iareValues: loop.example/g00712/impl.areValues -/
noncomputable def QiareValues : Fx := ⟨Go.Proofs.Try.f183, [.ro], false, mkEnv tys_m1 [(123, SslicesContainsFunc_int_iareValues_1)] [], fun _ => .stop, []⟩
noncomputable def FiareValues : List S → Option Res := veil QiareValues.run
noncomputable def SiareValues : Spec := ⟨[.ro], false, FiareValues⟩
theorem miareValues (x1 : Option Bool) (x2 : List (List C)) : FiareValues [.one (.sl false x1 1 x2)] = cV false [.bool] (FslicesContainsFunc_int_iareValues_1 [.one (.sl false x1 1 x2), .one (.fn 197 [])]) fun b1 => fr false 1 [.one (.bool (!b1))] := Fx.eq (by kernel_rfl)
theorem okiareValues : CalleeOk Go.Proofs.Try.prog 183 SiareValues := Fx.ok (F := QiareValues) follows (envTy_mk tys_m1_eq) (envSpec_of (specsOk_cons okslicesContainsFunc_int_iareValues_1 specsOk_nil)) Go.Proofs.Try.func183 (by kernel_rfl) (by kernel_rfl) (by rw [show subs QiareValues.code = [] by kernel_rfl]; trivial) (by kernel_rfl) (by kernel_rfl) rfl
theorem FiareValues_at (nl : Option Bool) (l : List Int) (h : smallL l) : FiareValues [S.one (C.sl false nl 1 (l.map encInt))] = some (S.one (C.bool (l.all isV)), [S.one C.unk]) := by
  simp [miareValues, FslicesContainsFunc_int_iareValues_1_at _ _ h, any_not]
/-! iMemOk: loop.example/g00712/impl.MemOk -/
noncomputable def QiMemOk : Fx := ⟨Go.Proofs.Try.f182, [.ro], false, mkEnv tys_m1 [(183, SiareValues), (85, Siwithin)] [], fun _ => .stop, []⟩
noncomputable def FiMemOk : List S → Option Res := veil QiMemOk.run
noncomputable def SiMemOk : Spec := ⟨[.ro], false, FiMemOk⟩
theorem miMemOk (x1 : List (List C)) : FiMemOk [.agg [.sl false none 1 x1]] = cV false [.bool] (Fiwithin [.one (.int (x1.length : Int)), .one (.int 1), .one (.int 16)]) fun b1 => bif b1 then cV false [.bool] (FiareValues [.one (.sl false none 1 x1)]) fun b2 => fr false 1 [.one (.bool b2)] else fr false 1 [.one (.bool false)] := Fx.eq (by kernel_rfl)
theorem okiMemOk : CalleeOk Go.Proofs.Try.prog 182 SiMemOk := Fx.ok (F := QiMemOk) follows (envTy_mk tys_m1_eq) (envSpec_of (specsOk_cons okiareValues (specsOk_cons okiwithin specsOk_nil))) Go.Proofs.Try.func182 (by kernel_rfl) (by kernel_rfl) (by rw [show subs QiMemOk.code = [] by kernel_rfl]; trivial) (by kernel_rfl) (by kernel_rfl) rfl
theorem FiMemOk_at (l : List Int) (h : smallL l) : FiMemOk [S.agg [C.sl false none 1 (l.map encInt)]] = some (S.one (C.bool (memOk l)), [S.one C.unk]) := by
  cases e : inB l.length 1 16 <;> simp [miMemOk, Fiwithin_at, FiareValues_at _ _ h, memOk, e]
/-! iBufOk_1: loop.example/g00712/impl.BufOk$1 -/
noncomputable def QiBufOk_1 : Fx := ⟨Go.Proofs.Try.f198, [.ro], false, mkEnv tys_m1 [(174, SiisValue), (85, Siwithin)] [], fun _ => .stop, []⟩
noncomputable def FiBufOk_1 : List S → Option Res := veil QiBufOk_1.run
noncomputable def SiBufOk_1 : Spec := ⟨[.ro], false, FiBufOk_1⟩
theorem miBufOk_1 (x1 : Int) (x2 : Int) : FiBufOk_1 [.agg [.int x1, .int x2]] = cV false [.bool] (Fiwithin [.one (.int x1), .one (.int 0), .one (.int 15)]) fun b1 => bif !b1 then fr false 1 [.one (.bool true)] else cV false [.bool] (FiisValue [.one (.int x2)]) fun b2 => fr false 1 [.one (.bool (!b2))] := Fx.eq (by kernel_rfl)
theorem okiBufOk_1 : CalleeOk Go.Proofs.Try.prog 198 SiBufOk_1 := Fx.ok (F := QiBufOk_1) follows (envTy_mk tys_m1_eq) (envSpec_of (specsOk_cons okiisValue (specsOk_cons okiwithin specsOk_nil))) Go.Proofs.Try.func198 (by kernel_rfl) (by kernel_rfl) (by rw [show subs QiBufOk_1.code = [] by kernel_rfl]; trivial) (by kernel_rfl) (by kernel_rfl) rfl
theorem FiBufOk_1_at (s : Slot) : FiBufOk_1 [S.agg (encSlot s)] = some (S.one (C.bool (!slotOk s)), [S.one C.unk]) := by
  cases e : inB s.a 0 15 <;> simp [miBufOk_1, Fiwithin_at, FiisValue_at, slotOk, e]
/-! slicesIndexFunc_iSlot_iBufOk_1: slices.IndexFunc[[]loop.example/g00712/impl.Slot,loop.example/g00712/impl.Slot] -/
@[reducible] def hslicesIndexFunc_iSlot_iBufOk_1_2 : Sh := ⟨[.one (.o (.sl false 2)), .one (.fn 198 []), .one (.o (.i .i64)), .one (.o (.i .i64))], []⟩
@[reducible] def xslicesIndexFunc_iSlot_iBufOk_1_2 : List (Ex × Sh) := [(.ret, ⟨[.one (.o (.i .i64))], []⟩), (.exit 0, ⟨[.one (.o .u)], []⟩)]
noncomputable def RslicesIndexFunc_iSlot_iBufOk_1_2 : KC xslicesIndexFunc_iSlot_iBufOk_1_2 (hslicesIndexFunc_iSlot_iBufOk_1_2.K → hslicesIndexFunc_iSlot_iBufOk_1_2.K) := fun k0 k1 nx v1 v2 v3 v4 => bif decide (v4 < v3) then ix v4 v2 ((v2[Int.toNat v4]?).bind fun w1 => tRo [.int .i64, .int .i64] w1 fun n1 n2 => cV false [.bool] (FiBufOk_1 [.agg [.int n1, .int n2]]) fun b1 => bif b1 then k0 v4 else nx v1 v2 v3 (W (v4 + 1))) else k1
noncomputable def LslicesIndexFunc_iSlot_iBufOk_1_2 : Lp := ⟨2, [0, 1, 7, 8], [4], 0, 19, hslicesIndexFunc_iSlot_iBufOk_1_2, xslicesIndexFunc_iSlot_iBufOk_1_2, RslicesIndexFunc_iSlot_iBufOk_1_2⟩
noncomputable def QslicesIndexFunc_iSlot_iBufOk_1 : Fx := ⟨Go.Proofs.Try.f199, [.ro, .ro], false, mkEnv tys_m1 [(198, SiBufOk_1)] [], fun _ => .stop, [LslicesIndexFunc_iSlot_iBufOk_1_2]⟩
noncomputable def FslicesIndexFunc_iSlot_iBufOk_1 : List S → Option Res := veil QslicesIndexFunc_iSlot_iBufOk_1.run
noncomputable def SslicesIndexFunc_iSlot_iBufOk_1 : Spec := ⟨[.ro, .ro], false, FslicesIndexFunc_iSlot_iBufOk_1⟩
theorem mslicesIndexFunc_iSlot_iBufOk_1 (x1 : Option Bool) (x2 : List (List C)) : FslicesIndexFunc_iSlot_iBufOk_1 [.one (.sl false x1 2 x2), .one (.fn 198 [])] = iterC (RslicesIndexFunc_iSlot_iBufOk_1_2 (fun y1 => fr false 2 [.one (.int y1)]) (fr false 2 [.one (.int (-1))])) FUEL x1 x2 (x2.length : Int) 0 := Fx.eq (by kernel_rfl)
theorem stslicesIndexFunc_iSlot_iBufOk_1_2 : LslicesIndexFunc_iSlot_iBufOk_1_2.Step QslicesIndexFunc_iSlot_iBufOk_1.E QslicesIndexFunc_iSlot_iBufOk_1.dr QslicesIndexFunc_iSlot_iBufOk_1.lp ((findLoop 2 QslicesIndexFunc_iSlot_iBufOk_1.code).getD .skip) := fun k nx v => by kernel_rfl
theorem okslicesIndexFunc_iSlot_iBufOk_1 : CalleeOk Go.Proofs.Try.prog 199 SslicesIndexFunc_iSlot_iBufOk_1 := Fx.ok (F := QslicesIndexFunc_iSlot_iBufOk_1) follows (envTy_mk tys_m1_eq) (envSpec_of (specsOk_cons okiBufOk_1 specsOk_nil)) Go.Proofs.Try.func199 (by kernel_rfl) (by kernel_rfl) (by
  rw [show subs QslicesIndexFunc_iSlot_iBufOk_1.code = [(findLoop 2 QslicesIndexFunc_iSlot_iBufOk_1.code).getD .skip] by kernel_rfl]
  exact ⟨stepAt_some (by kernel_rfl) stslicesIndexFunc_iSlot_iBufOk_1_2, trivial⟩) (by kernel_rfl) (by kernel_rfl) rfl
theorem FslicesIndexFunc_iSlot_iBufOk_1_at (nl : Option Bool) (l : List Slot) (h : smallL l) : FslicesIndexFunc_iSlot_iBufOk_1 [S.one (C.sl false nl 2 (l.map encSlot)), S.one (C.fn 198 [])] = some (S.one (C.int (bif l.any (fun n => !slotOk n) then (l.findIdx (fun n => !slotOk n) : Int) else -1)), [S.one C.unk, S.one C.unk]) := by
  rw [mslicesIndexFunc_iSlot_iBufOk_1]
  refine (iter_find (h := hslicesIndexFunc_iSlot_iBufOk_1_2) l (fun i f => f nl (l.map encSlot) ((l.map encSlot).length : Int) (i : Int)) (fun n => !slotOk n) (fun i => fr false 2 [.one (.int i)]) (fr false 2 [.one (.int (-1))]) (by omega) ?_ ?_).trans ?_
  · intro nx; simp [RslicesIndexFunc_iSlot_iBufOk_1_2]
  · intro nx i hi hW; simp [RslicesIndexFunc_iSlot_iBufOk_1_2, hi, hW, FiBufOk_1_at]
  · cases l.any (fun n => !slotOk n) <;> simp
/-! slicesContainsFunc_iSlot_iBufOk_1: slices.ContainsFunc[[]loop.example/g00712/impl.Slot,loop.example/g00712/impl.Slot] -/
noncomputable def QslicesContainsFunc_iSlot_iBufOk_1 : Fx := ⟨Go.Proofs.Try.f185, [.ro, .ro], false, mkEnv tys_m1 [(199, SslicesIndexFunc_iSlot_iBufOk_1)] [], fun _ => .stop, []⟩
noncomputable def FslicesContainsFunc_iSlot_iBufOk_1 : List S → Option Res := veil QslicesContainsFunc_iSlot_iBufOk_1.run
noncomputable def SslicesContainsFunc_iSlot_iBufOk_1 : Spec := ⟨[.ro, .ro], false, FslicesContainsFunc_iSlot_iBufOk_1⟩
theorem mslicesContainsFunc_iSlot_iBufOk_1 (x1 : Option Bool) (x2 : List (List C)) : FslicesContainsFunc_iSlot_iBufOk_1 [.one (.sl false x1 2 x2), .one (.fn 198 [])] = cV false [.int .i64] (FslicesIndexFunc_iSlot_iBufOk_1 [.one (.sl false x1 2 x2), .one (.fn 198 [])]) fun n1 => fr false 2 [.one (.bool (decide (n1 ≥ 0)))] := Fx.eq (by kernel_rfl)
theorem okslicesContainsFunc_iSlot_iBufOk_1 : CalleeOk Go.Proofs.Try.prog 185 SslicesContainsFunc_iSlot_iBufOk_1 := Fx.ok (F := QslicesContainsFunc_iSlot_iBufOk_1) follows (envTy_mk tys_m1_eq) (envSpec_of (specsOk_cons okslicesIndexFunc_iSlot_iBufOk_1 specsOk_nil)) Go.Proofs.Try.func185 (by kernel_rfl) (by kernel_rfl) (by rw [show subs QslicesContainsFunc_iSlot_iBufOk_1.code = [] by kernel_rfl]; trivial) (by kernel_rfl) (by kernel_rfl) rfl
theorem FslicesContainsFunc_iSlot_iBufOk_1_at (nl : Option Bool) (l : List Slot) (h : smallL l) : FslicesContainsFunc_iSlot_iBufOk_1 [S.one (C.sl false nl 2 (l.map encSlot)), S.one (C.fn 198 [])] = some (S.one (C.bool (l.any fun n => !slotOk n)), [S.one C.unk, S.one C.unk]) := by
  rw [mslicesContainsFunc_iSlot_iBufOk_1, FslicesIndexFunc_iSlot_iBufOk_1_at _ _ h]
  cases l.any (fun n => !slotOk n) <;> simp
/-! iBufOk: loop.example/g00712/impl.BufOk -/
noncomputable def QiBufOk : Fx := ⟨Go.Proofs.Try.f184, [.ro], false, mkEnv tys_m1 [(185, SslicesContainsFunc_iSlot_iBufOk_1)] [], fun _ => .stop, []⟩
noncomputable def FiBufOk : List S → Option Res := veil QiBufOk.run
noncomputable def SiBufOk : Spec := ⟨[.ro], false, FiBufOk⟩
theorem miBufOk (x1 : Option Bool) (x2 : List (List C)) : FiBufOk [.one (.sl false x1 2 x2)] = bif decide ((x2.length : Int) ≤ 3) then cV false [.bool] (FslicesContainsFunc_iSlot_iBufOk_1 [.one (.sl false x1 2 x2), .one (.fn 198 [])]) fun b1 => fr false 1 [.one (.bool (!b1))] else fr false 1 [.one (.bool false)] := Fx.eq (by kernel_rfl)
theorem okiBufOk : CalleeOk Go.Proofs.Try.prog 184 SiBufOk := Fx.ok (F := QiBufOk) follows (envTy_mk tys_m1_eq) (envSpec_of (specsOk_cons okslicesContainsFunc_iSlot_iBufOk_1 specsOk_nil)) Go.Proofs.Try.func184 (by kernel_rfl) (by kernel_rfl) (by rw [show subs QiBufOk.code = [] by kernel_rfl]; trivial) (by kernel_rfl) (by kernel_rfl) rfl
theorem FiBufOk_at (nl : Option Bool) (l : List Slot) (h : smallL l) : FiBufOk [S.one (C.sl false nl 2 (l.map encSlot))] = some (S.one (C.bool (bufOk l)), [S.one C.unk]) := by
  by_cases e : l.length ≤ 3
  · have e2 : (l.length : Int) ≤ 3 := by omega
    simp [miBufOk, FslicesContainsFunc_iSlot_iBufOk_1_at _ _ h, any_not, bufOk, e, e2]
  · have e2 : ¬ (l.length : Int) ≤ 3 := by omega
    simp [miBufOk, bufOk, e, e2]
/-! iInstr_usesR: (loop.example/g00712/impl.Instr).usesR -/
noncomputable def QiInstr_usesR : Fx := ⟨Go.Proofs.Try.f179, [.ro], false, mkEnv tys_m1 [] [], fun _ => .stop, []⟩
noncomputable def FiInstr_usesR : List S → Option Res := veil QiInstr_usesR.run
noncomputable def SiInstr_usesR : Spec := ⟨[.ro], false, FiInstr_usesR⟩
theorem miInstr_usesR (x1 : Int) (x2 : Int) (x3 : Int) (x4 : Int) : FiInstr_usesR [.agg [.int x1, .int x2, .int x3, .int x4]] = fr false 1 [.one (.bool (x1 != 4))] := Fx.eq (by kernel_rfl)
theorem okiInstr_usesR : CalleeOk Go.Proofs.Try.prog 179 SiInstr_usesR := Fx.ok (F := QiInstr_usesR) follows (envTy_mk tys_m1_eq) (envSpec_of (specsOk_nil)) Go.Proofs.Try.func179 (by kernel_rfl) (by kernel_rfl) (by rw [show subs QiInstr_usesR.code = [] by kernel_rfl]; trivial) (by kernel_rfl) (by kernel_rfl) rfl
theorem FiInstr_usesR_at (i : Instr) : FiInstr_usesR [S.agg (encInstr i)] = some (S.one (C.bool (useR i.op)), [S.one C.unk]) := by
  simp [miInstr_usesR, useR]
/-! iInstr_usesS: (loop.example/g00712/impl.Instr).usesS -/
noncomputable def QiInstr_usesS : Fx := ⟨Go.Proofs.Try.f180, [.ro], false, mkEnv tys_m1 [] [], fun _ => .stop, []⟩
noncomputable def FiInstr_usesS : List S → Option Res := veil QiInstr_usesS.run
noncomputable def SiInstr_usesS : Spec := ⟨[.ro], false, FiInstr_usesS⟩
theorem miInstr_usesS (x1 : Int) (x2 : Int) (x3 : Int) (x4 : Int) : FiInstr_usesS [.agg [.int x1, .int x2, .int x3, .int x4]] = bif x1 == 1 then fr false 1 [.one (.bool true)] else bif x1 == 8 then fr false 1 [.one (.bool true)] else bif x1 == 5 then fr false 1 [.one (.bool true)] else fr false 1 [.one (.bool (x1 == 7))] := Fx.eq (by kernel_rfl)
theorem okiInstr_usesS : CalleeOk Go.Proofs.Try.prog 180 SiInstr_usesS := Fx.ok (F := QiInstr_usesS) follows (envTy_mk tys_m1_eq) (envSpec_of (specsOk_nil)) Go.Proofs.Try.func180 (by kernel_rfl) (by kernel_rfl) (by rw [show subs QiInstr_usesS.code = [] by kernel_rfl]; trivial) (by kernel_rfl) (by kernel_rfl) rfl
theorem FiInstr_usesS_at (i : Instr) : FiInstr_usesS [S.agg (encInstr i)] = some (S.one (C.bool (useS i.op)), [S.one C.unk]) := by
  simp only [miInstr_usesS, useS]
  cases (i.op == 1) <;> cases (i.op == 8) <;> cases (i.op == 5) <;> simp
/-! iInstr_usesN: (loop.example/g00712/impl.Instr).usesN -/
noncomputable def QiInstr_usesN : Fx := ⟨Go.Proofs.Try.f181, [.ro], false, mkEnv tys_m1 [] [], fun _ => .stop, []⟩
noncomputable def FiInstr_usesN : List S → Option Res := veil QiInstr_usesN.run
noncomputable def SiInstr_usesN : Spec := ⟨[.ro], false, FiInstr_usesN⟩
theorem miInstr_usesN (x1 : Int) (x2 : Int) (x3 : Int) (x4 : Int) : FiInstr_usesN [.agg [.int x1, .int x2, .int x3, .int x4]] = bif x1 != 1 then bif x1 != 8 then fr false 1 [.one (.bool (x1 != 4))] else fr false 1 [.one (.bool false)] else fr false 1 [.one (.bool false)] := Fx.eq (by kernel_rfl)
theorem okiInstr_usesN : CalleeOk Go.Proofs.Try.prog 181 SiInstr_usesN := Fx.ok (F := QiInstr_usesN) follows (envTy_mk tys_m1_eq) (envSpec_of (specsOk_nil)) Go.Proofs.Try.func181 (by kernel_rfl) (by kernel_rfl) (by rw [show subs QiInstr_usesN.code = [] by kernel_rfl]; trivial) (by kernel_rfl) (by kernel_rfl) rfl
theorem FiInstr_usesN_at (i : Instr) : FiInstr_usesN [S.agg (encInstr i)] = some (S.one (C.bool (useN i.op)), [S.one C.unk]) := by
  simp only [miInstr_usesN, useN]
  cases (i.op != 1) <;> cases (i.op != 8) <;> simp
/-! iisRegister: loop.example/g00712/impl.isRegister -/
noncomputable def QiisRegister : Fx := ⟨Go.Proofs.Try.f178, [.ro], false, mkEnv tys_m1 [(85, Siwithin)] [], fun _ => .stop, []⟩
noncomputable def FiisRegister : List S → Option Res := veil QiisRegister.run
noncomputable def SiisRegister : Spec := ⟨[.ro], false, FiisRegister⟩
theorem miisRegister (x1 : Int) : FiisRegister [.one (.int x1)] = cV false [.bool] (Fiwithin [.one (.int x1), .one (.int 0), .one (.int 3)]) fun b1 => fr false 1 [.one (.bool b1)] := Fx.eq (by kernel_rfl)
theorem okiisRegister : CalleeOk Go.Proofs.Try.prog 178 SiisRegister := Fx.ok (F := QiisRegister) follows (envTy_mk tys_m1_eq) (envSpec_of (specsOk_cons okiwithin specsOk_nil)) Go.Proofs.Try.func178 (by kernel_rfl) (by kernel_rfl) (by rw [show subs QiisRegister.code = [] by kernel_rfl]; trivial) (by kernel_rfl) (by kernel_rfl) rfl
theorem FiisRegister_at (n : Int) : FiisRegister [S.one (C.int n)] = some (S.one (C.bool (inB n 0 3)), [S.one C.unk]) := by
  simp [miisRegister, Fiwithin_at]
/-! iInstrOk: loop.example/g00712/impl.InstrOk -/
noncomputable def QiInstrOk : Fx := ⟨Go.Proofs.Try.f155, [.ro, .ro, .ro], false, mkEnv tys_m1 [(178, SiisRegister), (179, SiInstr_usesR), (180, SiInstr_usesS), (181, SiInstr_usesN), (85, Siwithin)] [], fun _ => .stop, []⟩
noncomputable def FiInstrOk : List S → Option Res := veil QiInstrOk.run
noncomputable def SiInstrOk : Spec := ⟨[.ro, .ro, .ro], false, FiInstrOk⟩
theorem miInstrOk (x1 : Int) (x2 : Int) (x3 : Int) (x4 : Int) (x5 : Int) (x6 : Int) : FiInstrOk [.agg [.int x1, .int x2, .int x3, .int x4], .one (.int x5), .one (.int x6)] = cV false [.bool] (Fiwithin [.one (.int x5), .one (.int 1), .one (.int 16)]) fun b1 => bif !b1 then fr false 3 [.one (.bool false)] else cV false [.bool] (Fiwithin [.one (.int x6), .one (.int 0), .one (.int 16)]) fun b2 => bif !b2 then fr false 3 [.one (.bool false)] else cV false [.bool] (Fiwithin [.one (.int x1), .one (.int 0), .one (.int 8)]) fun b3 => bif !b3 then fr false 3 [.one (.bool false)] else cV false [.bool] (FiisRegister [.one (.int x2)]) fun b4 => bif !b4 then fr false 3 [.one (.bool false)] else cV false [.bool] (FiisRegister [.one (.int x3)]) fun b5 => bif !b5 then fr false 3 [.one (.bool false)] else cV false [.bool] (FiInstr_usesR [.agg [.int x1, .int x2, .int x3, .int x4]]) fun b6 => bif !b6 then bif x2 != 0 then fr false 3 [.one (.bool false)] else cV false [.bool] (FiInstr_usesS [.agg [.int x1, .int x2, .int x3, .int x4]]) fun b7 => bif !b7 then bif x3 != 0 then fr false 3 [.one (.bool false)] else cV false [.bool] (FiInstr_usesN [.agg [.int x1, .int x2, .int x3, .int x4]]) fun b8 => bif !b8 then fr false 3 [.one (.bool (x4 == 0))] else bif x1 == 0 then cV false [.bool] (Fiwithin [.one (.int x4), .one (.int (-1000)), .one (.int 1000)]) fun b9 => fr false 3 [.one (.bool b9)] else bif x1 == 6 then cV false [.bool] (Fiwithin [.one (.int x4), .one (.int 0), .one (.int x6)]) fun b10 => fr false 3 [.one (.bool b10)] else cV false [.bool] (Fiwithin [.one (.int x4), .one (.int 0), .one (.int (W (x5 - 1)))]) fun b11 => fr false 3 [.one (.bool b11)] else cV false [.bool] (FiInstr_usesN [.agg [.int x1, .int x2, .int x3, .int x4]]) fun b12 => bif !b12 then fr false 3 [.one (.bool (x4 == 0))] else bif x1 == 0 then cV false [.bool] (Fiwithin [.one (.int x4), .one (.int (-1000)), .one (.int 1000)]) fun b13 => fr false 3 [.one (.bool b13)] else bif x1 == 6 then cV false [.bool] (Fiwithin [.one (.int x4), .one (.int 0), .one (.int x6)]) fun b14 => fr false 3 [.one (.bool b14)] else cV false [.bool] (Fiwithin [.one (.int x4), .one (.int 0), .one (.int (W (x5 - 1)))]) fun b15 => fr false 3 [.one (.bool b15)] else cV false [.bool] (FiInstr_usesS [.agg [.int x1, .int x2, .int x3, .int x4]]) fun b16 => bif !b16 then bif x3 != 0 then fr false 3 [.one (.bool false)] else cV false [.bool] (FiInstr_usesN [.agg [.int x1, .int x2, .int x3, .int x4]]) fun b17 => bif !b17 then fr false 3 [.one (.bool (x4 == 0))] else bif x1 == 0 then cV false [.bool] (Fiwithin [.one (.int x4), .one (.int (-1000)), .one (.int 1000)]) fun b18 => fr false 3 [.one (.bool b18)] else bif x1 == 6 then cV false [.bool] (Fiwithin [.one (.int x4), .one (.int 0), .one (.int x6)]) fun b19 => fr false 3 [.one (.bool b19)] else cV false [.bool] (Fiwithin [.one (.int x4), .one (.int 0), .one (.int (W (x5 - 1)))]) fun b20 => fr false 3 [.one (.bool b20)] else cV false [.bool] (FiInstr_usesN [.agg [.int x1, .int x2, .int x3, .int x4]]) fun b21 => bif !b21 then fr false 3 [.one (.bool (x4 == 0))] else bif x1 == 0 then cV false [.bool] (Fiwithin [.one (.int x4), .one (.int (-1000)), .one (.int 1000)]) fun b22 => fr false 3 [.one (.bool b22)] else bif x1 == 6 then cV false [.bool] (Fiwithin [.one (.int x4), .one (.int 0), .one (.int x6)]) fun b23 => fr false 3 [.one (.bool b23)] else cV false [.bool] (Fiwithin [.one (.int x4), .one (.int 0), .one (.int (W (x5 - 1)))]) fun b24 => fr false 3 [.one (.bool b24)] := Fx.eq (by kernel_rfl)
theorem okiInstrOk : CalleeOk Go.Proofs.Try.prog 155 SiInstrOk := Fx.ok (F := QiInstrOk) follows (envTy_mk tys_m1_eq) (envSpec_of (specsOk_cons okiisRegister (specsOk_cons okiInstr_usesR (specsOk_cons okiInstr_usesS (specsOk_cons okiInstr_usesN (specsOk_cons okiwithin specsOk_nil)))))) Go.Proofs.Try.func155 (by kernel_rfl) (by kernel_rfl) (by rw [show subs QiInstrOk.code = [] by kernel_rfl]; trivial) (by kernel_rfl) (by kernel_rfl) rfl
theorem FiInstrOk_at (i : Instr) (cells size : Int) : FiInstrOk [S.agg (encInstr i), S.one (C.int cells), S.one (C.int size)] = some (S.one (C.bool (instrOk i cells size)), [S.one C.unk, S.one C.unk, S.one C.unk]) := by
  simp only [miInstrOk, instrOk, Fiwithin_at, FiisRegister_at, FiInstr_usesR_at, FiInstr_usesS_at, FiInstr_usesN_at]
  cases h1 : inB cells 1 16 <;> simp
  have hw : W (cells - 1) = cells - 1 := by have := inB_iff.1 h1; exact W_eq (by omega) (by omega)
  rw [hw]
  cases inB size 0 16 <;> simp
  cases inB i.op 0 8 <;> simp
  cases inB i.r 0 3 <;> simp
  cases inB i.s 0 3 <;> simp
  simp only [bne]
  cases useR i.op <;> cases useS i.op <;> cases useN i.op <;> cases (i.r == 0) <;> cases (i.s == 0) <;> cases (i.op == 0) <;> cases (i.op == 6) <;> simp
/-! iProgOk_1: loop.example/g00712/impl.ProgOk$1 -/
noncomputable def QiProgOk_1 : Fx := ⟨Go.Proofs.Try.f154, [.ro, .ro, .ro], false, mkEnv tys_m1 [(155, SiInstrOk)] [], fun _ => .stop, []⟩
noncomputable def FiProgOk_1 : List S → Option Res := veil QiProgOk_1.run
noncomputable def SiProgOk_1 : Spec := ⟨[.ro, .ro, .ro], false, FiProgOk_1⟩
theorem miProgOk_1 (x1 : Int) (x2 : Int) (x3 : Int) (x4 : Int) (x5 : Int) (x6 : List (List C)) (x7 : List (List C)) : FiProgOk_1 [.agg [.int x1, .int x2, .int x3, .int x4], .one (.rp [.int x5, .sl false none 1 x6]), .one (.rp [.sl false none 4 x7])] = cV false [.bool] (FiInstrOk [.agg [.int x1, .int x2, .int x3, .int x4], .one (.int x5), .one (.int (x7.length : Int))]) fun b1 => fr false 3 [.one (.bool (!b1))] := Fx.eq (by kernel_rfl)
theorem okiProgOk_1 : CalleeOk Go.Proofs.Try.prog 154 SiProgOk_1 := Fx.ok (F := QiProgOk_1) follows (envTy_mk tys_m1_eq) (envSpec_of (specsOk_cons okiInstrOk specsOk_nil)) Go.Proofs.Try.func154 (by kernel_rfl) (by kernel_rfl) (by rw [show subs QiProgOk_1.code = [] by kernel_rfl]; trivial) (by kernel_rfl) (by kernel_rfl) rfl
theorem FiProgOk_1_at (i : Instr) (cells : Int) (es : List (List C)) (c : List (List C)) : FiProgOk_1 [S.agg (encInstr i), S.one (C.rp [C.int cells, C.sl false none 1 es]), S.one (C.rp [C.sl false none 4 c])] = some (S.one (C.bool (!instrOk i cells c.length)), [S.one C.unk, S.one C.unk, S.one C.unk]) := by
  simp [miProgOk_1, FiInstrOk_at]
/-! slicesIndexFunc_iInstr_iProgOk_1: slices.IndexFunc[[]loop.example/g00712/impl.Instr,loop.example/g00712/impl.Instr] -/
@[reducible] def hslicesIndexFunc_iInstr_iProgOk_1_2 : Sh := ⟨[.one (.o (.sl false 4)), .one (.fn 154 [.rp, .rp]), .one (.o (.i .i64)), .one (.o (.i .i64))], []⟩
@[reducible] def xslicesIndexFunc_iInstr_iProgOk_1_2 : List (Ex × Sh) := [(.ret, ⟨[.one (.o (.i .i64))], []⟩), (.exit 0, ⟨[.one (.o .u)], []⟩)]
noncomputable def RslicesIndexFunc_iInstr_iProgOk_1_2 : KC xslicesIndexFunc_iInstr_iProgOk_1_2 (hslicesIndexFunc_iInstr_iProgOk_1_2.K → hslicesIndexFunc_iInstr_iProgOk_1_2.K) := fun k0 k1 nx v1 v2 v3 v4 v5 v6 => bif decide (v6 < v5) then ix v6 v2 ((v2[Int.toNat v6]?).bind fun w1 => tRo [.int .i64, .int .i64, .int .i64, .int .i64] w1 fun n1 n2 n3 n4 => cV false [.bool] (FiProgOk_1 [.agg [.int n1, .int n2, .int n3, .int n4], .one (.rp v3), .one (.rp v4)]) fun b1 => bif b1 then k0 v6 else nx v1 v2 v3 v4 v5 (W (v6 + 1))) else k1
noncomputable def LslicesIndexFunc_iInstr_iProgOk_1_2 : Lp := ⟨2, [0, 1, 7, 8], [4], 0, 19, hslicesIndexFunc_iInstr_iProgOk_1_2, xslicesIndexFunc_iInstr_iProgOk_1_2, RslicesIndexFunc_iInstr_iProgOk_1_2⟩
noncomputable def QslicesIndexFunc_iInstr_iProgOk_1 : Fx := ⟨Go.Proofs.Try.f177, [.ro, .ro], false, mkEnv tys_m1 [(154, SiProgOk_1)] [], fun _ => .stop, [LslicesIndexFunc_iInstr_iProgOk_1_2]⟩
noncomputable def FslicesIndexFunc_iInstr_iProgOk_1 : List S → Option Res := veil QslicesIndexFunc_iInstr_iProgOk_1.run
noncomputable def SslicesIndexFunc_iInstr_iProgOk_1 : Spec := ⟨[.ro, .ro], false, FslicesIndexFunc_iInstr_iProgOk_1⟩
theorem mslicesIndexFunc_iInstr_iProgOk_1 (x1 : Option Bool) (x2 : List (List C)) (x3 : Int) (x4 : List (List C)) (x5 : List (List C)) : FslicesIndexFunc_iInstr_iProgOk_1 [.one (.sl false x1 4 x2), .one (.fn 154 [.rp [.int x3, .sl false none 1 x4], .rp [.sl false none 4 x5]])] = iterC (RslicesIndexFunc_iInstr_iProgOk_1_2 (fun y1 => fr false 2 [.one (.int y1)]) (fr false 2 [.one (.int (-1))])) FUEL x1 x2 [.int x3, .sl false none 1 x4] [.sl false none 4 x5] (x2.length : Int) 0 := Fx.eq (by kernel_rfl)
theorem stslicesIndexFunc_iInstr_iProgOk_1_2 : LslicesIndexFunc_iInstr_iProgOk_1_2.Step QslicesIndexFunc_iInstr_iProgOk_1.E QslicesIndexFunc_iInstr_iProgOk_1.dr QslicesIndexFunc_iInstr_iProgOk_1.lp ((findLoop 2 QslicesIndexFunc_iInstr_iProgOk_1.code).getD .skip) := fun k nx v => by kernel_rfl
theorem okslicesIndexFunc_iInstr_iProgOk_1 : CalleeOk Go.Proofs.Try.prog 177 SslicesIndexFunc_iInstr_iProgOk_1 := Fx.ok (F := QslicesIndexFunc_iInstr_iProgOk_1) follows (envTy_mk tys_m1_eq) (envSpec_of (specsOk_cons okiProgOk_1 specsOk_nil)) Go.Proofs.Try.func177 (by kernel_rfl) (by kernel_rfl) (by
  rw [show subs QslicesIndexFunc_iInstr_iProgOk_1.code = [(findLoop 2 QslicesIndexFunc_iInstr_iProgOk_1.code).getD .skip] by kernel_rfl]
  exact ⟨stepAt_some (by kernel_rfl) stslicesIndexFunc_iInstr_iProgOk_1_2, trivial⟩) (by kernel_rfl) (by kernel_rfl) rfl
theorem FslicesIndexFunc_iInstr_iProgOk_1_at (nl : Option Bool) (l : List Instr) (cells : Int) (es : List (List C)) (c : List (List C)) (h : smallL l) : FslicesIndexFunc_iInstr_iProgOk_1 [S.one (C.sl false nl 4 (l.map encInstr)), S.one (C.fn 154 [C.rp [C.int cells, C.sl false none 1 es], C.rp [C.sl false none 4 c]])] = some (S.one (C.int (bif l.any (fun i => !instrOk i cells c.length) then (l.findIdx (fun i => !instrOk i cells c.length) : Int) else -1)), [S.one C.unk, S.one C.unk]) := by
  rw [mslicesIndexFunc_iInstr_iProgOk_1]
  refine (iter_find (h := hslicesIndexFunc_iInstr_iProgOk_1_2) l (fun i f => f nl (l.map encInstr) [C.int cells, C.sl false none 1 es] [C.sl false none 4 c] ((l.map encInstr).length : Int) (i : Int)) (fun i => !instrOk i cells c.length) (fun i => fr false 2 [.one (.int i)]) (fr false 2 [.one (.int (-1))]) (by omega) ?_ ?_).trans ?_
  · intro nx; simp [RslicesIndexFunc_iInstr_iProgOk_1_2]
  · intro nx i hi hW; simp [RslicesIndexFunc_iInstr_iProgOk_1_2, hi, hW, FiProgOk_1_at]
  · cases l.any (fun i => !instrOk i cells c.length) <;> simp
/-! slicesContainsFunc_iInstr_iProgOk_1: slices.ContainsFunc[[]loop.example/g00712/impl.Instr,loop.example/g00712/impl.Instr] -/
noncomputable def QslicesContainsFunc_iInstr_iProgOk_1 : Fx := ⟨Go.Proofs.Try.f153, [.ro, .ro], false, mkEnv tys_m1 [(177, SslicesIndexFunc_iInstr_iProgOk_1)] [], fun _ => .stop, []⟩
noncomputable def FslicesContainsFunc_iInstr_iProgOk_1 : List S → Option Res := veil QslicesContainsFunc_iInstr_iProgOk_1.run
noncomputable def SslicesContainsFunc_iInstr_iProgOk_1 : Spec := ⟨[.ro, .ro], false, FslicesContainsFunc_iInstr_iProgOk_1⟩
theorem mslicesContainsFunc_iInstr_iProgOk_1 (x1 : Option Bool) (x2 : List (List C)) (x3 : Int) (x4 : List (List C)) (x5 : List (List C)) : FslicesContainsFunc_iInstr_iProgOk_1 [.one (.sl false x1 4 x2), .one (.fn 154 [.rp [.int x3, .sl false none 1 x4], .rp [.sl false none 4 x5]])] = cV false [.int .i64] (FslicesIndexFunc_iInstr_iProgOk_1 [.one (.sl false x1 4 x2), .one (.fn 154 [.rp [.int x3, .sl false none 1 x4], .rp [.sl false none 4 x5]])]) fun n1 => fr false 2 [.one (.bool (decide (n1 ≥ 0)))] := Fx.eq (by kernel_rfl)
theorem okslicesContainsFunc_iInstr_iProgOk_1 : CalleeOk Go.Proofs.Try.prog 153 SslicesContainsFunc_iInstr_iProgOk_1 := Fx.ok (F := QslicesContainsFunc_iInstr_iProgOk_1) follows (envTy_mk tys_m1_eq) (envSpec_of (specsOk_cons okslicesIndexFunc_iInstr_iProgOk_1 specsOk_nil)) Go.Proofs.Try.func153 (by kernel_rfl) (by kernel_rfl) (by rw [show subs QslicesContainsFunc_iInstr_iProgOk_1.code = [] by kernel_rfl]; trivial) (by kernel_rfl) (by kernel_rfl) rfl
theorem FslicesContainsFunc_iInstr_iProgOk_1_at (nl : Option Bool) (l : List Instr) (cells : Int) (es : List (List C)) (c : List (List C)) (h : smallL l) : FslicesContainsFunc_iInstr_iProgOk_1 [S.one (C.sl false nl 4 (l.map encInstr)), S.one (C.fn 154 [C.rp [C.int cells, C.sl false none 1 es], C.rp [C.sl false none 4 c]])] = some (S.one (C.bool (l.any fun i => !instrOk i cells c.length)), [S.one C.unk, S.one C.unk]) := by
  rw [mslicesContainsFunc_iInstr_iProgOk_1, FslicesIndexFunc_iInstr_iProgOk_1_at _ _ _ _ _ h]
  cases l.any (fun i => !instrOk i cells c.length) <;> simp
/-! iProgOk: loop.example/g00712/impl.ProgOk -/
@[reducible] def hiProgOk_4 : Sh := ⟨[.one (.o (.pl 0 0 [])), .one (.o (.sl false 1)), .one (.o (.i .i64)), .one (.o (.i .i64))], [(false, [.o (.i .i64), .o (.sl false 1)])]⟩
@[reducible] def xiProgOk_4 : List (Ex × Sh) := [(.ret, ⟨[.one (.o .b)], [(false, [.o (.i .i64), .o (.sl false 1)]), (false, [.o (.sl false 4)])]⟩), (.exit 0, ⟨[.one (.o .u)], [(false, [.o (.i .i64), .o (.sl false 1)])]⟩)]
noncomputable def RiProgOk_4 : KC xiProgOk_4 (hiProgOk_4.K → hiProgOk_4.K) := fun k0 k1 nx v1 v2 v3 v4 v5 v6 v7 => bif decide (v4 < v3) then ix v4 v2 ((v2[Int.toNat v4]?).bind fun w1 => tRo [.sl 4] w1 fun _ l1 => bif decide ((l1.length : Int) > 16) then k0 false v5 v6 v7 none l1 else cV false [.bool] (FslicesContainsFunc_iInstr_iProgOk_1 [.one (.sl false none 4 l1), .one (.fn 154 [.rp [.int v5, .sl false none 1 (freezeRows v7)], .rp [.sl false none 4 (freezeRows l1)]])]) fun b3 => bif b3 then k0 false v5 v6 v7 none l1 else nx v1 v2 v3 (W (v4 + 1)) v5 v6 v7) else k1 v5 v6 v7
noncomputable def LiProgOk_4 : Lp := ⟨4, [1, 17, 18, 19], [2], 1, 32, hiProgOk_4, xiProgOk_4, RiProgOk_4⟩
noncomputable def QiProgOk : Fx := ⟨Go.Proofs.Try.f103, [.ro], false, mkEnv tys_m1 [(153, SslicesContainsFunc_iInstr_iProgOk_1), (85, Siwithin)] [], fun _ => .stop, [LiProgOk_4]⟩
noncomputable def FiProgOk : List S → Option Res := veil QiProgOk.run
noncomputable def SiProgOk : Spec := ⟨[.ro], false, FiProgOk⟩
theorem miProgOk (x1 : Int) (x2 : List (List C)) : FiProgOk [.agg [.int x1, .sl false none 1 x2]] = cV false [.bool] (Fiwithin [.one (.int x1), .one (.int 1), .one (.int 16)]) fun b1 => bif !b1 then fr false 1 [.one (.bool false)] else cV false [.bool] (Fiwithin [.one (.int (x2.length : Int)), .one (.int 1), .one (.int 3)]) fun b2 => bif !b2 then fr false 1 [.one (.bool false)] else iterC (RiProgOk_4 (fun y1 y2 y3 y4 y5 y6 => fr false 1 [.one (.bool y1)]) (fun y7 y8 y9 => fr false 1 [.one (.bool true)])) FUEL none x2 (x2.length : Int) 0 x1 none x2 := Fx.eq (by kernel_rfl)
theorem stiProgOk_4 : LiProgOk_4.Step QiProgOk.E QiProgOk.dr QiProgOk.lp ((findLoop 4 QiProgOk.code).getD .skip) := fun k nx v => by kernel_rfl
theorem okiProgOk : CalleeOk Go.Proofs.Try.prog 103 SiProgOk := Fx.ok (F := QiProgOk) follows (envTy_mk tys_m1_eq) (envSpec_of (specsOk_cons okslicesContainsFunc_iInstr_iProgOk_1 (specsOk_cons okiwithin specsOk_nil))) Go.Proofs.Try.func103 (by kernel_rfl) (by kernel_rfl) (by
  rw [show subs QiProgOk.code = [(findLoop 4 QiProgOk.code).getD .skip] by kernel_rfl]
  exact ⟨stepAt_some (by kernel_rfl) stiProgOk_4, trivial⟩) (by kernel_rfl) (by kernel_rfl) rfl
theorem FiProgOk_at (p : Prog) (h : bndL p.codes) : FiProgOk [S.agg (encProg false p)] = some (S.one (C.bool (progOk p)), [S.one C.unk]) := by
  obtain ⟨cells, codes⟩ := p
  simp only [miProgOk, progOk, Fiwithin_at, List.length_map]
  cases h1 : inB cells 1 16 <;> simp
  cases h2 : inB codes.length 1 3 <;> simp
  refine (iter_all (h := hiProgOk_4) codes (fun i f => f none (codes.map (encCode false)) (codes.length : Int) (i : Int) cells none (codes.map (encCode false))) (codeOk cells) (fr false 1 [.one (.bool true)]) (fr false 1 [.one (.bool false)]) (by have := h.1; simp only at this; omega) ?_ ?_).trans ?_
  · intro nx; simp [RiProgOk_4]
  · intro nx i hi hW
    have hb := h.2 _ (List.getElem_mem hi)
    by_cases hc : codes[i].length ≤ 16
    · have hc' : ¬ (codes[i].length : Int) > 16 := by omega
      simp [RiProgOk_4, hi, hW, hc', hc, codeOk, FslicesContainsFunc_iInstr_iProgOk_1_at none codes[i] cells _ _ hb]
      rw [← any_not]
      cases (codes[i].any fun x => !instrOk x cells codes[i].length) <;> simp
    · have hc' : (codes[i].length : Int) > 16 := by omega
      simp [RiProgOk_4, hi, hW, hc', hc, codeOk]
  · cases codes.all (codeOk cells) <;> simp
end Go.Proofs.Gh.Gm
set_option linter.unusedVariables false
set_option linter.unusedSimpArgs false
set_option maxRecDepth 100000
set_option maxHeartbeats 2000000
namespace Go.Proofs.Gh.Gm
def tys_m2 : List (Nat × TI) := [(3, ⟨false, 8, [.int .i64], [.int 0], .scalar, false, none⟩),
  (4, ⟨false, 1, [.bool], [.bool false], .scalar, false, none⟩),
  (23, ⟨false, 24, [.sl 1], [.sl true (some true) 1 []], .slice 3, false, none⟩),
  (64, ⟨false, 24, [.sl 1], [.sl true (some true) 1 []], .slice 69, false, none⟩),
  (66, ⟨true, 32, [.int .i64, .sl 1], [.int 0, .sl true (some true) 1 []], .struct [(0, 1, false), (1, 1, false)], false, none⟩),
  (69, ⟨false, 24, [.sl 4], [.sl true (some true) 4 []], .slice 135, false, none⟩),
  (71, ⟨true, 24, [.sl 1], [.sl true (some true) 1 []], .struct [(0, 1, false)], false, none⟩),
  (72, ⟨false, 24, [.sl 3], [.sl true (some true) 3 []], .slice 84, false, none⟩),
  (74, ⟨true, 48, [.sl 1, .sl 3], [.sl true (some true) 1 [], .sl true (some true) 3 []], .struct [(0, 1, true), (1, 1, false)], false, none⟩),
  (78, ⟨true, 16, [.int .i64, .bool], [.int 0, .bool false], .struct [(0, 1, false), (1, 1, false)], true, none⟩),
  (82, ⟨false, 24, [.sl 2], [.sl true (some true) 2 []], .slice 144, false, none⟩),
  (84, ⟨true, 56, [.int .i64, .sl 1, .sl 2], [.int 0, .sl true (some true) 1 [], .sl true (some true) 2 []], .struct [(0, 1, false), (1, 1, false), (2, 1, false)], false, none⟩),
  (135, ⟨true, 32, [.int .i64, .int .i64, .int .i64, .int .i64], [.int 0, .int 0, .int 0, .int 0], .struct [(0, 1, false), (1, 1, false), (2, 1, false), (3, 1, false)], true, none⟩),
  (144, ⟨true, 16, [.int .i64, .int .i64], [.int 0, .int 0], .struct [(0, 1, false), (1, 1, false)], true, none⟩),
  (197, ⟨false, 8, [.other], [.v Value.nilFunc], .scalar, false, none⟩)]
theorem tys_m2_eq : tys_m2.map (fun x => tiOf Go.Proofs.Try.prog x.1 x.2.cks) = tys_m2.map fun x => some x.2 := by kernel_rfl
/-! iisMachine_1: loop.example/g00712/impl.isMachine$1 -/
noncomputable def QiisMachine_1 : Fx := ⟨Go.Proofs.Try.f186, [.ro, .ro], false, mkEnv tys_m2 [] [], fun _ => .stop, []⟩
noncomputable def FiisMachine_1 : List S → Option Res := veil QiisMachine_1.run
noncomputable def SiisMachine_1 : Spec := ⟨[.ro, .ro], false, FiisMachine_1⟩
theorem miisMachine_1 (x1 : Int) (x2 : Int) (x3 : Int) (x4 : List (List C)) : FiisMachine_1 [.agg [.int x1, .int x2], .one (.rp [.int x3, .sl false none 1 x4])] = fr false 2 [.one (.bool (decide (x1 ≥ x3)))] := Fx.eq (by kernel_rfl)
theorem okiisMachine_1 : CalleeOk Go.Proofs.Try.prog 186 SiisMachine_1 := Fx.ok (F := QiisMachine_1) follows (envTy_mk tys_m2_eq) (envSpec_of (specsOk_nil)) Go.Proofs.Try.func186 (by kernel_rfl) (by kernel_rfl) (by rw [show subs QiisMachine_1.code = [] by kernel_rfl]; trivial) (by kernel_rfl) (by kernel_rfl) rfl
theorem FiisMachine_1_at (s : Slot) (cells : Int) (es : List (List C)) : FiisMachine_1 [S.agg (encSlot s), S.one (C.rp [C.int cells, C.sl false none 1 es])] = some (S.one (C.bool (decide (s.a ≥ cells))), [S.one C.unk, S.one C.unk]) := by
  simp [miisMachine_1]
/-! slicesIndexFunc_iSlot_iisMachine_1: slices.IndexFunc[[]loop.example/g00712/impl.Slot,loop.example/g00712/impl.Slot] -/
@[reducible] def hslicesIndexFunc_iSlot_iisMachine_1_2 : Sh := ⟨[.one (.o (.sl false 2)), .one (.fn 186 [.rp]), .one (.o (.i .i64)), .one (.o (.i .i64))], []⟩
@[reducible] def xslicesIndexFunc_iSlot_iisMachine_1_2 : List (Ex × Sh) := [(.ret, ⟨[.one (.o (.i .i64))], []⟩), (.exit 0, ⟨[.one (.o .u)], []⟩)]
noncomputable def RslicesIndexFunc_iSlot_iisMachine_1_2 : KC xslicesIndexFunc_iSlot_iisMachine_1_2 (hslicesIndexFunc_iSlot_iisMachine_1_2.K → hslicesIndexFunc_iSlot_iisMachine_1_2.K) := fun k0 k1 nx v1 v2 v3 v4 v5 => bif decide (v5 < v4) then ix v5 v2 ((v2[Int.toNat v5]?).bind fun w1 => tRo [.int .i64, .int .i64] w1 fun n1 n2 => cV false [.bool] (FiisMachine_1 [.agg [.int n1, .int n2], .one (.rp v3)]) fun b1 => bif b1 then k0 v5 else nx v1 v2 v3 v4 (W (v5 + 1))) else k1
noncomputable def LslicesIndexFunc_iSlot_iisMachine_1_2 : Lp := ⟨2, [0, 1, 7, 8], [4], 0, 19, hslicesIndexFunc_iSlot_iisMachine_1_2, xslicesIndexFunc_iSlot_iisMachine_1_2, RslicesIndexFunc_iSlot_iisMachine_1_2⟩
noncomputable def QslicesIndexFunc_iSlot_iisMachine_1 : Fx := ⟨Go.Proofs.Try.f199, [.ro, .ro], false, mkEnv tys_m2 [(186, SiisMachine_1)] [], fun _ => .stop, [LslicesIndexFunc_iSlot_iisMachine_1_2]⟩
noncomputable def FslicesIndexFunc_iSlot_iisMachine_1 : List S → Option Res := veil QslicesIndexFunc_iSlot_iisMachine_1.run
noncomputable def SslicesIndexFunc_iSlot_iisMachine_1 : Spec := ⟨[.ro, .ro], false, FslicesIndexFunc_iSlot_iisMachine_1⟩
theorem mslicesIndexFunc_iSlot_iisMachine_1 (x1 : Option Bool) (x2 : List (List C)) (x3 : Int) (x4 : List (List C)) : FslicesIndexFunc_iSlot_iisMachine_1 [.one (.sl false x1 2 x2), .one (.fn 186 [.rp [.int x3, .sl false none 1 x4]])] = iterC (RslicesIndexFunc_iSlot_iisMachine_1_2 (fun y1 => fr false 2 [.one (.int y1)]) (fr false 2 [.one (.int (-1))])) FUEL x1 x2 [.int x3, .sl false none 1 x4] (x2.length : Int) 0 := Fx.eq (by kernel_rfl)
theorem stslicesIndexFunc_iSlot_iisMachine_1_2 : LslicesIndexFunc_iSlot_iisMachine_1_2.Step QslicesIndexFunc_iSlot_iisMachine_1.E QslicesIndexFunc_iSlot_iisMachine_1.dr QslicesIndexFunc_iSlot_iisMachine_1.lp ((findLoop 2 QslicesIndexFunc_iSlot_iisMachine_1.code).getD .skip) := fun k nx v => by kernel_rfl
theorem okslicesIndexFunc_iSlot_iisMachine_1 : CalleeOk Go.Proofs.Try.prog 199 SslicesIndexFunc_iSlot_iisMachine_1 := Fx.ok (F := QslicesIndexFunc_iSlot_iisMachine_1) follows (envTy_mk tys_m2_eq) (envSpec_of (specsOk_cons okiisMachine_1 specsOk_nil)) Go.Proofs.Try.func199 (by kernel_rfl) (by kernel_rfl) (by
  rw [show subs QslicesIndexFunc_iSlot_iisMachine_1.code = [(findLoop 2 QslicesIndexFunc_iSlot_iisMachine_1.code).getD .skip] by kernel_rfl]
  exact ⟨stepAt_some (by kernel_rfl) stslicesIndexFunc_iSlot_iisMachine_1_2, trivial⟩) (by kernel_rfl) (by kernel_rfl) rfl
theorem FslicesIndexFunc_iSlot_iisMachine_1_at (nl : Option Bool) (l : List Slot) (cells : Int) (es : List (List C)) (h : smallL l) : FslicesIndexFunc_iSlot_iisMachine_1 [S.one (C.sl false nl 2 (l.map encSlot)), S.one (C.fn 186 [C.rp [C.int cells, C.sl false none 1 es]])] = some (S.one (C.int (bif l.any (fun s => decide (s.a ≥ cells)) then (l.findIdx (fun s => decide (s.a ≥ cells)) : Int) else -1)), [S.one C.unk, S.one C.unk]) := by
  rw [mslicesIndexFunc_iSlot_iisMachine_1]
  refine (iter_find (h := hslicesIndexFunc_iSlot_iisMachine_1_2) l (fun i f => f nl (l.map encSlot) [C.int cells, C.sl false none 1 es] ((l.map encSlot).length : Int) (i : Int)) (fun s => decide (s.a ≥ cells)) (fun i => fr false 2 [.one (.int i)]) (fr false 2 [.one (.int (-1))]) (by omega) ?_ ?_).trans ?_
  · intro nx; simp [RslicesIndexFunc_iSlot_iisMachine_1_2]
  · intro nx i hi hW; simp [RslicesIndexFunc_iSlot_iisMachine_1_2, hi, hW, FiisMachine_1_at]
  · cases l.any (fun s => decide (s.a ≥ cells)) <;> simp
/-! slicesContainsFunc_iSlot_iisMachine_1: slices.ContainsFunc[[]loop.example/g00712/impl.Slot,loop.example/g00712/impl.Slot] -/
noncomputable def QslicesContainsFunc_iSlot_iisMachine_1 : Fx := ⟨Go.Proofs.Try.f185, [.ro, .ro], false, mkEnv tys_m2 [(199, SslicesIndexFunc_iSlot_iisMachine_1)] [], fun _ => .stop, []⟩
noncomputable def FslicesContainsFunc_iSlot_iisMachine_1 : List S → Option Res := veil QslicesContainsFunc_iSlot_iisMachine_1.run
noncomputable def SslicesContainsFunc_iSlot_iisMachine_1 : Spec := ⟨[.ro, .ro], false, FslicesContainsFunc_iSlot_iisMachine_1⟩
theorem mslicesContainsFunc_iSlot_iisMachine_1 (x1 : Option Bool) (x2 : List (List C)) (x3 : Int) (x4 : List (List C)) : FslicesContainsFunc_iSlot_iisMachine_1 [.one (.sl false x1 2 x2), .one (.fn 186 [.rp [.int x3, .sl false none 1 x4]])] = cV false [.int .i64] (FslicesIndexFunc_iSlot_iisMachine_1 [.one (.sl false x1 2 x2), .one (.fn 186 [.rp [.int x3, .sl false none 1 x4]])]) fun n1 => fr false 2 [.one (.bool (decide (n1 ≥ 0)))] := Fx.eq (by kernel_rfl)
theorem okslicesContainsFunc_iSlot_iisMachine_1 : CalleeOk Go.Proofs.Try.prog 185 SslicesContainsFunc_iSlot_iisMachine_1 := Fx.ok (F := QslicesContainsFunc_iSlot_iisMachine_1) follows (envTy_mk tys_m2_eq) (envSpec_of (specsOk_cons okslicesIndexFunc_iSlot_iisMachine_1 specsOk_nil)) Go.Proofs.Try.func185 (by kernel_rfl) (by kernel_rfl) (by rw [show subs QslicesContainsFunc_iSlot_iisMachine_1.code = [] by kernel_rfl]; trivial) (by kernel_rfl) (by kernel_rfl) rfl
theorem FslicesContainsFunc_iSlot_iisMachine_1_at (nl : Option Bool) (l : List Slot) (cells : Int) (es : List (List C)) (h : smallL l) : FslicesContainsFunc_iSlot_iisMachine_1 [S.one (C.sl false nl 2 (l.map encSlot)), S.one (C.fn 186 [C.rp [C.int cells, C.sl false none 1 es]])] = some (S.one (C.bool (l.any fun s => decide (s.a ≥ cells))), [S.one C.unk, S.one C.unk]) := by
  rw [mslicesContainsFunc_iSlot_iisMachine_1, FslicesIndexFunc_iSlot_iisMachine_1_at _ _ _ _ h]
  cases l.any (fun s => decide (s.a ≥ cells)) <;> simp
theorem any_ge {l : List Slot} {cells : Int} : (!l.any fun s => decide (s.a ≥ cells)) = l.all fun s => decide (s.a < cells) := by
  rw [← any_not]
  congr 2
  funext s
  by_cases h : s.a < cells
  · simp [h]
  · simp [h]; omega
/-! iisMachine: loop.example/g00712/impl.isMachine -/
@[reducible] def hiisMachine_4 : Sh := ⟨[.one (.o (.pl 0 0 [])), .one (.o (.sl false 3)), .one (.o (.i .i64)), .one (.o (.i .i64))], [(false, [.o (.i .i64), .o (.sl false 1)]), (false, [.o (.sl false 1), .o (.sl false 3)])]⟩
@[reducible] def xiisMachine_4 : List (Ex × Sh) := [(.ret, ⟨[.one (.o .b)], [(false, [.o (.i .i64), .o (.sl false 1)]), (false, [.o (.sl false 1), .o (.sl false 3)]), (false, [.o (.i .i64), .o (.sl false 1), .o (.sl false 2)])]⟩), (.exit 0, ⟨[.one (.o .u)], [(false, [.o (.i .i64), .o (.sl false 1)]), (false, [.o (.sl false 1), .o (.sl false 3)])]⟩)]
noncomputable def RiisMachine_4 : KC xiisMachine_4 (hiisMachine_4.K → hiisMachine_4.K) := fun k0 k1 nx v1 v2 v3 v4 v5 v6 v7 v8 v9 v10 v11 => bif decide (v4 < v3) then ix v4 v2 ((v2[Int.toNat v4]?).bind fun w1 => tRo [.int .i64, .sl 1, .sl 2] w1 fun n1 _ l1 _ l2 => ix v4 v7 ((v7[Int.toNat v4]?).bind fun w2 => tRo [.sl 4] w2 fun _ l3 => cV false [.bool] (Fiwithin [.one (.int n1), .one (.int 0), .one (.int (l3.length : Int))]) fun b2 => bif !b2 then k0 false v5 v6 v7 v8 v9 v10 v11 n1 none l1 none l2 else bif (l1.length : Int) != 4 then k0 false v5 v6 v7 v8 v9 v10 v11 n1 none l1 none l2 else cV false [.bool] (FiareValues [.one (.sl false none 1 l1)]) fun b3 => bif !b3 then k0 false v5 v6 v7 v8 v9 v10 v11 n1 none l1 none l2 else cV false [.bool] (FiBufOk [.one (.sl false none 2 l2)]) fun b4 => bif !b4 then k0 false v5 v6 v7 v8 v9 v10 v11 n1 none l1 none l2 else cV false [.bool] (FslicesContainsFunc_iSlot_iisMachine_1 [.one (.sl false none 2 l2), .one (.fn 186 [.rp [.int v5, .sl false none 1 (freezeRows v7)]])]) fun b5 => bif b5 then k0 false v5 v6 v7 v8 v9 v10 v11 n1 none l1 none l2 else nx v1 v2 v3 (W (v4 + 1)) v5 v6 v7 v8 v9 v10 v11)) else k1 v5 v6 v7 v8 v9 v10 v11
noncomputable def LiisMachine_4 : Lp := ⟨4, [2, 30, 31, 32], [4], 2, 70, hiisMachine_4, xiisMachine_4, RiisMachine_4⟩
noncomputable def QiisMachine : Fx := ⟨Go.Proofs.Try.f156, [.ro, .ro], false, mkEnv tys_m2 [(185, SslicesContainsFunc_iSlot_iisMachine_1), (182, SiMemOk), (183, SiareValues), (184, SiBufOk), (85, Siwithin)] [], fun id => bif Nat.beq id 6 then .sq [0, 1, 2, 3, 4, 5, 6, 7, 8, 9, 10, 11, 12, 13, 14, 15, 16, 17, 18, 19, 20, 21, 22, 23, 24, 25, 26, 27] .stop else .stop, [LiisMachine_4]⟩
noncomputable def FiisMachine : List S → Option Res := veil QiisMachine.run
noncomputable def SiisMachine : Spec := ⟨[.ro, .ro], false, FiisMachine⟩
theorem miisMachine (x1 : Int) (x2 : List (List C)) (x3 : List (List C)) (x4 : List (List C)) : FiisMachine [.agg [.int x1, .sl false none 1 x2], .agg [.sl false none 1 x3, .sl false none 3 x4]] = cV false [.bool] (FiMemOk [.agg [.sl false none 1 x3]]) fun b1 => bif !b1 then fr false 2 [.one (.bool false)] else bif (x3.length : Int) != x1 then fr false 2 [.one (.bool false)] else bif (x4.length : Int) != (x2.length : Int) then fr false 2 [.one (.bool false)] else iterC (RiisMachine_4 (fun y1 y2 y3 y4 y5 y6 y7 y8 y9 y10 y11 y12 y13 => fr false 2 [.one (.bool y1)]) (fun y14 y15 y16 y17 y18 y19 y20 => fr false 2 [.one (.bool true)])) FUEL none x4 (x4.length : Int) 0 x1 none x2 none x3 none x4 := Fx.eq (by kernel_rfl)
theorem stiisMachine_4 : LiisMachine_4.Step QiisMachine.E QiisMachine.dr QiisMachine.lp ((findLoop 4 QiisMachine.code).getD .skip) := fun k nx v => by kernel_rfl
theorem okiisMachine : CalleeOk Go.Proofs.Try.prog 156 SiisMachine := Fx.ok (F := QiisMachine) follows (envTy_mk tys_m2_eq) (envSpec_of (specsOk_cons okslicesContainsFunc_iSlot_iisMachine_1 (specsOk_cons okiMemOk (specsOk_cons okiareValues (specsOk_cons okiBufOk (specsOk_cons okiwithin specsOk_nil)))))) Go.Proofs.Try.func156 (by kernel_rfl) (by kernel_rfl) (by
  rw [show subs QiisMachine.code = [(findLoop 4 QiisMachine.code).getD .skip] by kernel_rfl]
  exact ⟨stepAt_some (by kernel_rfl) stiisMachine_4, trivial⟩) (by kernel_rfl) (by kernel_rfl) rfl
theorem FiisMachine_at (p : Prog) (m : Machine) (h : bndL p.codes ∧ smallL m.cells ∧ bndT m.ths) : FiisMachine [S.agg (encProg false p), S.agg (encMa false m)] = some (S.one (C.bool (isMa p m)), [S.one C.unk, S.one C.unk]) := by
  obtain ⟨pc, codes⟩ := p
  obtain ⟨cells, ths⟩ := m
  obtain ⟨hb1, hb2, hb3⟩ := h
  simp only at hb1 hb2 hb3
  simp only [miisMachine, isMa, FiMemOk_at _ hb2, List.length_map, bne]
  cases h1 : memOk cells <;> simp
  by_cases h2 : (cells.length : Int) = pc
  · by_cases h3 : ths.length = codes.length
    · have e2 : ((cells.length : Int) == pc) = true := by simpa using h2
      have e3 : ((ths.length : Int) == (codes.length : Int)) = true := by simp [h3]
      have hz : (ths.zip codes).length = ths.length := by simp [h3]
      simp only [e2, e3, Bool.not_true, cond_false]
      refine (iter_all (h := hiisMachine_4) (ths.zip codes) (fun i f => f none (ths.map (encTh false)) (ths.length : Int) (i : Int) pc none (codes.map (encCode false)) none (cells.map encInt) none (ths.map (encTh false))) (fun x => thOk pc x.1 x.2) (fr false 2 [.one (.bool true)]) (fr false 2 [.one (.bool false)]) (by have := hb3.1; omega) ?_ ?_).trans ?_
      · intro nx; rw [hz]; simp [RiisMachine_4]
      · intro nx i hi hW
        have hi1 : i < ths.length := by omega
        have hi2 : i < codes.length := by omega
        have ht := hb3.2 _ (List.getElem_mem hi1)
        simp only [List.getElem_zip, thOk]
        simp [RiisMachine_4, hi1, hi2, hW, Fiwithin_at, FiareValues_at _ _ ht.1, FiBufOk_at _ _ ht.2, FslicesContainsFunc_iSlot_iisMachine_1_at none ths[i].buf pc _ ht.2]
        cases inB ths[i].pc 0 codes[i].length <;> simp
        by_cases h4 : ths[i].vals.length = 4
        · have h4' : (ths[i].vals.length : Int) = 4 := by omega
          simp [h4, h4', bne]
          cases ths[i].vals.all isV <;> simp
          cases bufOk ths[i].buf <;> simp
          rw [← any_ge]
          cases (ths[i].buf.any fun s => decide (s.a ≥ pc)) <;> simp
        · have h4' : ¬ (ths[i].vals.length : Int) = 4 := by omega
          have h5 : ((ths[i].vals.length : Int) != 4) = true := by simpa using h4'
          have h6 : (ths[i].vals.length == 4) = false := by simpa using h4
          simp [h5, h6]
      · simp only [h2, h3, decide_true, Bool.true_and]
        cases (ths.zip codes).all fun x => thOk pc x.1 x.2 <;> simp
    · have h3' : ¬ (ths.length : Int) = codes.length := by omega
      have h4 : ((ths.length : Int) == codes.length) = false := by simpa using h3'
      simp [h2, h3, h4]
  · have h4 : ((cells.length : Int) == pc) = false := by simpa using h2
    simp [h2, h4]
/-! iMachineOk: loop.example/g00712/impl.MachineOk -/
noncomputable def QiMachineOk : Fx := ⟨Go.Proofs.Try.f105, [.ro, .ro], false, mkEnv tys_m2 [(103, SiProgOk), (156, SiisMachine)] [], fun _ => .stop, []⟩
noncomputable def FiMachineOk : List S → Option Res := veil QiMachineOk.run
noncomputable def SiMachineOk : Spec := ⟨[.ro, .ro], false, FiMachineOk⟩
theorem miMachineOk (x1 : Int) (x2 : List (List C)) (x3 : List (List C)) (x4 : List (List C)) : FiMachineOk [.agg [.int x1, .sl false none 1 x2], .agg [.sl false none 1 x3, .sl false none 3 x4]] = cV false [.bool] (FiProgOk [.agg [.int x1, .sl false none 1 x2]]) fun b1 => bif b1 then cV false [.bool] (FiisMachine [.agg [.int x1, .sl false none 1 x2], .agg [.sl false none 1 x3, .sl false none 3 x4]]) fun b2 => fr false 2 [.one (.bool b2)] else fr false 2 [.one (.bool false)] := Fx.eq (by kernel_rfl)
theorem okiMachineOk : CalleeOk Go.Proofs.Try.prog 105 SiMachineOk := Fx.ok (F := QiMachineOk) follows (envTy_mk tys_m2_eq) (envSpec_of (specsOk_cons okiProgOk (specsOk_cons okiisMachine specsOk_nil))) Go.Proofs.Try.func105 (by kernel_rfl) (by kernel_rfl) (by rw [show subs QiMachineOk.code = [] by kernel_rfl]; trivial) (by kernel_rfl) (by kernel_rfl) rfl
theorem FiMachineOk_at (p : Prog) (m : Machine) (h : bndL p.codes ∧ smallL m.cells ∧ bndT m.ths) : FiMachineOk [S.agg (encProg false p), S.agg (encMa false m)] = some (S.one (C.bool (progOk p && isMa p m)), [S.one C.unk, S.one C.unk]) := by
  simp only [miMachineOk, FiProgOk_at _ h.1, FiisMachine_at _ _ h]
  cases progOk p <;> simp
/-! iHasFence: loop.example/g00712/impl.HasFence -/
noncomputable def QiHasFence : Fx := ⟨Go.Proofs.Try.f157, [.ro], false, mkEnv tys_m2 [] [], fun _ => .stop, []⟩
noncomputable def FiHasFence : List S → Option Res := veil QiHasFence.run
noncomputable def SiHasFence : Spec := ⟨[.ro], false, FiHasFence⟩
theorem miHasFence (x1 : Int) (x2 : Int) (x3 : Int) (x4 : Int) : FiHasFence [.agg [.int x1, .int x2, .int x3, .int x4]] = bif x1 == 4 then fr false 1 [.one (.bool true)] else bif x1 == 5 then fr false 1 [.one (.bool true)] else fr false 1 [.one (.bool (x1 == 7))] := Fx.eq (by kernel_rfl)
theorem okiHasFence : CalleeOk Go.Proofs.Try.prog 157 SiHasFence := Fx.ok (F := QiHasFence) follows (envTy_mk tys_m2_eq) (envSpec_of (specsOk_nil)) Go.Proofs.Try.func157 (by kernel_rfl) (by kernel_rfl) (by rw [show subs QiHasFence.code = [] by kernel_rfl]; trivial) (by kernel_rfl) (by kernel_rfl) rfl
theorem FiHasFence_at (i : Instr) : FiHasFence [S.agg (encInstr i)] = some (S.one (C.bool (fenceI i)), [S.one C.unk]) := by
  simp only [miHasFence, fenceI]
  cases (i.op == 4) <;> cases (i.op == 5) <;> simp
def canMv (p : Prog) (m : Machine) (t : Int) (dr : Bool) : Bool :=
  inB t 0 ((m.ths.length : Int) - 1) && (match m.ths[t.toNat]?, p.codes[t.toNat]? with
    | some th, some c => bif dr then decide (0 < th.buf.length) else
      match c[th.pc.toNat]? with
      | none => false
      | some i => bif i.op == 3 then decide (th.buf.length < 3) else bif fenceI i then th.buf.length == 0 else true
    | _, _ => false)
theorem isMa_th {p : Prog} {m : Machine} (h : isMa p m = true) {i : Nat} (hi : i < m.ths.length) : ∃ hc : i < p.codes.length, thOk p.cells m.ths[i] p.codes[i] = true := by
  simp only [isMa, Bool.and_eq_true, decide_eq_true_eq, List.all_eq_true] at h
  obtain ⟨⟨⟨_, _⟩, h3⟩, h4⟩ := h
  have hc : i < p.codes.length := by omega
  refine ⟨hc, ?_⟩
  have := h4 (m.ths[i], p.codes[i]) (by
    rw [← List.getElem_zip (l := m.ths) (l' := p.codes) (h := by simp; omega)]
    exact List.getElem_mem _)
  exact this
theorem thOk_iff {cells : Int} {t : Thread} {c : List Instr} : thOk cells t c = true ↔ (0 ≤ t.pc ∧ t.pc ≤ c.length) ∧ t.vals.length = 4 ∧ (∀ v ∈ t.vals, isV v = true) ∧ bufOk t.buf = true ∧ ∀ s ∈ t.buf, s.a < cells := by
  simp [thOk, inB, and_assoc]
/-! icanMove: loop.example/g00712/impl.canMove -/
noncomputable def QicanMove : Fx := ⟨Go.Proofs.Try.f106, [.ro, .ro, .ro], false, mkEnv tys_m2 [(157, SiHasFence), (85, Siwithin)] [], fun id => bif Nat.beq id 3 then .sq [0, 1, 2, 3, 4, 5, 6, 8] (.alt 7 (.alt 9 (.sq [10] (.alt 11 (.sq [12, 13, 14] .stop) (.sq [12] (.alt 11 (.sq [13, 14] .stop) (.sq [13, 11, 14] .stop))))) (.sq [12] (.alt 9 (.sq [10] (.alt 11 (.sq [13, 14] .stop) (.sq [13, 11, 14] .stop))) (.sq [13, 9, 10, 11, 14] .stop)))) (.alt 9 (.alt 7 (.sq [10] (.alt 11 (.sq [12, 13, 14] .stop) (.sq [12] (.alt 11 (.sq [13, 14] .stop) (.sq [13, 11, 14] .stop))))) (.sq [12] (.alt 7 (.sq [10] (.alt 11 (.sq [13, 14] .stop) (.sq [13, 11, 14] .stop))) (.sq [13, 7, 10, 11, 14] .stop)))) (.sq [12] (.alt 7 (.alt 9 (.sq [10] (.alt 11 (.sq [13, 14] .stop) (.sq [13, 11, 14] .stop))) (.sq [13, 9, 10, 11, 14] .stop)) (.alt 9 (.alt 7 (.sq [10] (.alt 11 (.sq [13, 14] .stop) (.sq [13, 11, 14] .stop))) (.sq [13, 7, 10, 11, 14] .stop)) (.sq [13] (.alt 7 (.sq [9, 10, 11, 14] .stop) (.sq [9, 7, 10, 11, 14] .stop)))))))) else .stop, []⟩
noncomputable def FicanMove : List S → Option Res := veil QicanMove.run
noncomputable def SicanMove : Spec := ⟨[.ro, .ro, .ro], false, FicanMove⟩
theorem micanMove (x1 : Int) (x2 : List (List C)) (x3 : List (List C)) (x4 : List (List C)) (x5 : Int) (x6 : Bool) : FicanMove [.agg [.int x1, .sl false none 1 x2], .agg [.sl false none 1 x3, .sl false none 3 x4], .agg [.int x5, .bool x6]] = cV false [.bool] (Fiwithin [.one (.int x5), .one (.int 0), .one (.int (W ((x4.length : Int) - 1)))]) fun b1 => bif !b1 then fr false 3 [.one (.bool false)] else (let q1 : (List (List C)) → (List C) → Int → (List (List C)) → (List (List C)) → (List C) → (List (List C)) → Int → (List (List C)) → (List (List C)) → Option Res := fun z1 z2 z3 z4 z5 z6 z7 z8 z9 z10 => bif x6 then fr false 3 [.one (.bool (decide ((z10.length : Int) > 0)))] else bif z8 == (z1.length : Int) then fr false 3 [.one (.bool false)] else ix z8 z1 ((z1[Int.toNat z8]?).bind fun w1 => tRo [.int .i64] w1 fun n1 => bif n1 == 3 then fr false 3 [.one (.bool (decide ((z10.length : Int) < 3)))] else ix z8 z1 ((z1[Int.toNat z8]?).bind fun w2 => tRo [.int .i64, .int .i64, .int .i64, .int .i64] w2 fun n2 n3 n4 n5 => cV false [.bool] (FiHasFence [.agg [.int n2, .int n3, .int n4, .int n5]]) fun b2 => bif b2 then fr false 3 [.one (.bool ((z10.length : Int) == 0))] else fr false 3 [.one (.bool true)])); ix x5 x4 ((x4[Int.toNat x5]?).bind fun w3 => tRo [.int .i64, .sl 1, .sl 2] w3 fun n6 _ l1 _ l2 => both (both (ix x5 x2 ((x2[Int.toNat x5]?).bind fun w4 => both (tRo [.sl 4] w4 fun _ l3 => q1 l3 w3 n6 l1 l2 w4 l3 n6 l1 l2) (both (tRo [.sl 4] w4 fun _ l4 => q1 l4 w3 n6 l1 l2 w4 l4 n6 l1 l2) (tRo [.sl 4] w4 fun _ l5 => q1 l5 w3 n6 l1 l2 w4 l5 n6 l1 l2)))) (both (ix x5 x2 ((x2[Int.toNat x5]?).bind fun w5 => both (tRo [.sl 4] w5 fun _ l6 => q1 l6 w3 n6 l1 l2 w5 l6 n6 l1 l2) (tRo [.sl 4] w5 fun _ l7 => q1 l7 w3 n6 l1 l2 w5 l7 n6 l1 l2))) (ix x5 x2 ((x2[Int.toNat x5]?).bind fun w6 => tRo [.sl 4] w6 fun _ l8 => q1 l8 w3 n6 l1 l2 w6 l8 n6 l1 l2)))) (both (both (ix x5 x2 ((x2[Int.toNat x5]?).bind fun w7 => both (tRo [.sl 4] w7 fun _ l9 => q1 l9 w3 n6 l1 l2 w7 l9 n6 l1 l2) (both (tRo [.sl 4] w7 fun _ l10 => q1 l10 w3 n6 l1 l2 w7 l10 n6 l1 l2) (tRo [.sl 4] w7 fun _ l11 => q1 l11 w3 n6 l1 l2 w7 l11 n6 l1 l2)))) (both (ix x5 x2 ((x2[Int.toNat x5]?).bind fun w8 => both (tRo [.sl 4] w8 fun _ l12 => q1 l12 w3 n6 l1 l2 w8 l12 n6 l1 l2) (tRo [.sl 4] w8 fun _ l13 => q1 l13 w3 n6 l1 l2 w8 l13 n6 l1 l2))) (ix x5 x2 ((x2[Int.toNat x5]?).bind fun w9 => tRo [.sl 4] w9 fun _ l14 => q1 l14 w3 n6 l1 l2 w9 l14 n6 l1 l2)))) (both (both (ix x5 x2 ((x2[Int.toNat x5]?).bind fun w10 => both (tRo [.sl 4] w10 fun _ l15 => q1 l15 w3 n6 l1 l2 w10 l15 n6 l1 l2) (tRo [.sl 4] w10 fun _ l16 => q1 l16 w3 n6 l1 l2 w10 l16 n6 l1 l2))) (ix x5 x2 ((x2[Int.toNat x5]?).bind fun w11 => tRo [.sl 4] w11 fun _ l17 => q1 l17 w3 n6 l1 l2 w11 l17 n6 l1 l2))) (both (both (ix x5 x2 ((x2[Int.toNat x5]?).bind fun w12 => both (tRo [.sl 4] w12 fun _ l18 => q1 l18 w3 n6 l1 l2 w12 l18 n6 l1 l2) (tRo [.sl 4] w12 fun _ l19 => q1 l19 w3 n6 l1 l2 w12 l19 n6 l1 l2))) (ix x5 x2 ((x2[Int.toNat x5]?).bind fun w13 => tRo [.sl 4] w13 fun _ l20 => q1 l20 w3 n6 l1 l2 w13 l20 n6 l1 l2))) (both (ix x5 x2 ((x2[Int.toNat x5]?).bind fun w14 => tRo [.sl 4] w14 fun _ l21 => q1 l21 w3 n6 l1 l2 w14 l21 n6 l1 l2)) (ix x5 x2 ((x2[Int.toNat x5]?).bind fun w15 => tRo [.sl 4] w15 fun _ l22 => q1 l22 w3 n6 l1 l2 w15 l22 n6 l1 l2)))))))) := Fx.eq (by kernel_rfl)
theorem okicanMove : CalleeOk Go.Proofs.Try.prog 106 SicanMove := Fx.ok (F := QicanMove) follows (envTy_mk tys_m2_eq) (envSpec_of (specsOk_cons okiHasFence (specsOk_cons okiwithin specsOk_nil))) Go.Proofs.Try.func106 (by kernel_rfl) (by kernel_rfl) (by rw [show subs QicanMove.code = [] by kernel_rfl]; trivial) (by kernel_rfl) (by kernel_rfl) rfl
theorem FicanMove_at (p : Prog) (m : Machine) (t : Int) (dr : Bool) (h : isMa p m = true ∧ m.ths.length ≤ 1048576) : FicanMove [S.agg (encProg false p), S.agg (encMa false m), S.agg [C.int t, C.bool dr]] = some (S.one (C.bool (canMv p m t dr)), [S.one C.unk, S.one C.unk, S.one C.unk]) := by
  obtain ⟨pc, codes⟩ := p
  obtain ⟨cells, ths⟩ := m
  obtain ⟨hm, hl⟩ := h
  simp only at hl
  have hw : W ((ths.length : Int) - 1) = (ths.length : Int) - 1 := W_eq (by omega) (by omega)
  simp only [micanMove, canMv, List.length_map, hw, Fiwithin_at]
  cases h1 : inB t 0 ((ths.length : Int) - 1) <;> simp
  obtain ⟨t1, t2⟩ := inB_iff.1 h1
  obtain ⟨n, rfl⟩ : ∃ n : Nat, t = (n : Int) := ⟨t.toNat, by omega⟩
  have hi : n < ths.length := by omega
  obtain ⟨hc, hok⟩ := isMa_th hm hi
  simp only at hc hok
  obtain ⟨⟨k1, k2⟩, _⟩ := thOk_iff.1 hok
  simp only [both_self]
  simp [hi, hc]
  cases dr with
  | true => simp
  | false =>
    by_cases e : ths[n].pc = (codes[n].length : Int)
    · have e2 : codes[n][ths[n].pc.toNat]? = none := by rw [List.getElem?_eq_none]; omega
      simp [e, e2]
    · have e3 : (ths[n].pc == (codes[n].length : Int)) = false := by simpa using e
      obtain ⟨q, hq⟩ : ∃ q : Nat, ths[n].pc = (q : Int) := ⟨ths[n].pc.toNat, by omega⟩
      have hq2 : q < codes[n].length := by omega
      have e4 : ((q : Int) == (codes[n].length : Int)) = false := by rw [← hq]; exact e3
      have e5 : ((ths[n].buf.length : Int) == 0) = (ths[n].buf.length == 0) := by rw [Bool.eq_iff_iff]; simp
      have e6 : decide ((ths[n].buf.length : Int) < 3) = decide (ths[n].buf.length < 3) := decide_eq_decide.2 (by omega)
      simp [e3, e4, e5, e6, hq, hq2, FiHasFence_at]
      cases (codes[n][q].op == 3) <;> simp
      · cases fenceI codes[n][q] <;> simp
/-! iCanMove: loop.example/g00712/impl.CanMove -/
noncomputable def QiCanMove : Fx := ⟨Go.Proofs.Try.f53, [.ro, .ro, .ro], false, mkEnv tys_m2 [(105, SiMachineOk), (106, SicanMove)] [], fun _ => .stop, []⟩
noncomputable def FiCanMove : List S → Option Res := veil QiCanMove.run
noncomputable def SiCanMove : Spec := ⟨[.ro, .ro, .ro], false, FiCanMove⟩
theorem miCanMove (x1 : Int) (x2 : List (List C)) (x3 : List (List C)) (x4 : List (List C)) (x5 : Int) (x6 : Bool) : FiCanMove [.agg [.int x1, .sl false none 1 x2], .agg [.sl false none 1 x3, .sl false none 3 x4], .agg [.int x5, .bool x6]] = cV false [.bool] (FiMachineOk [.agg [.int x1, .sl false none 1 x2], .agg [.sl false none 1 x3, .sl false none 3 x4]]) fun b1 => bif b1 then cV false [.bool] (FicanMove [.agg [.int x1, .sl false none 1 x2], .agg [.sl false none 1 x3, .sl false none 3 x4], .agg [.int x5, .bool x6]]) fun b2 => fr false 3 [.one (.bool b2)] else fr false 3 [.one (.bool false)] := Fx.eq (by kernel_rfl)
theorem okiCanMove : CalleeOk Go.Proofs.Try.prog 53 SiCanMove := Fx.ok (F := QiCanMove) follows (envTy_mk tys_m2_eq) (envSpec_of (specsOk_cons okiMachineOk (specsOk_cons okicanMove specsOk_nil))) Go.Proofs.Try.func53 (by kernel_rfl) (by kernel_rfl) (by rw [show subs QiCanMove.code = [] by kernel_rfl]; trivial) (by kernel_rfl) (by kernel_rfl) rfl
theorem FiCanMove_at (p : Prog) (m : Machine) (t : Int) (dr : Bool) (h : bndL p.codes ∧ smallL m.cells ∧ bndT m.ths ∧ m.ths.length ≤ 1048576) : FiCanMove [S.agg (encProg false p), S.agg (encMa false m), S.agg [C.int t, C.bool dr]] = some (S.one (C.bool (progOk p && isMa p m && canMv p m t dr)), [S.one C.unk, S.one C.unk, S.one C.unk]) := by
  simp only [miCanMove, FiMachineOk_at p m ⟨h.1, h.2.1, h.2.2.1⟩]
  cases h1 : progOk p <;> cases h2 : isMa p m <;> simp
  simp [FicanMove_at p m t dr ⟨h2, h.2.2.2⟩]
end Go.Proofs.Gh.Gm
set_option linter.unusedVariables false
set_option linter.unusedSimpArgs false
set_option maxRecDepth 100000
set_option maxHeartbeats 2000000
namespace Go.Proofs.Gh.Gm
def tys_m3 : List (Nat × TI) := [(3, ⟨false, 8, [.int .i64], [.int 0], .scalar, false, none⟩),
  (4, ⟨false, 1, [.bool], [.bool false], .scalar, false, none⟩),
  (23, ⟨false, 24, [.sl 1], [.sl true (some true) 1 []], .slice 3, false, none⟩),
  (71, ⟨true, 24, [.sl 1], [.sl true (some true) 1 []], .struct [(0, 1, false)], false, none⟩),
  (72, ⟨false, 24, [.sl 3], [.sl true (some true) 3 []], .slice 84, false, none⟩),
  (74, ⟨true, 48, [.sl 1, .sl 3], [.sl true (some true) 1 [], .sl true (some true) 3 []], .struct [(0, 1, true), (1, 1, false)], false, none⟩),
  (82, ⟨false, 24, [.sl 2], [.sl true (some true) 2 []], .slice 144, false, none⟩),
  (84, ⟨true, 56, [.int .i64, .sl 1, .sl 2], [.int 0, .sl true (some true) 1 [], .sl true (some true) 2 []], .struct [(0, 1, false), (1, 1, false), (2, 1, false)], false, none⟩),
  (144, ⟨true, 16, [.int .i64, .int .i64], [.int 0, .int 0], .struct [(0, 1, false), (1, 1, false)], true, none⟩)]
theorem tys_m3_eq : tys_m3.map (fun x => tiOf Go.Proofs.Try.prog x.1 x.2.cks) = tys_m3.map fun x => some x.2 := by kernel_rfl
abbrev rho (F T E : Nat) : Go.Shelf.Ren := ⟨fun _ => F, fun t => if t = 22 then T else if t = 23 then E else t, fun x => x⟩
theorem layslicesClone_int : SlLaysE0.n41 Go.Proofs.Try.prog (rho 125 23 3) := ⟨follows, ⟨Go.Proofs.Try.f125.name, by kernel_rfl, by kernel_rfl⟩, Go.Proofs.Try.underlying4, Go.Proofs.Try.isAgg4, Go.Proofs.Try.sizeOf4, Go.Proofs.Try.zeroValue4, Go.Proofs.Try.underlying23, Go.Proofs.Try.isAgg23, Go.Proofs.Try.sizeOf23, Go.Proofs.Try.zeroValue23⟩
noncomputable def FslicesClone_int : List S → Option Res := veil (cloneRun 1 8)
noncomputable def SslicesClone_int : Spec := ⟨[.ro], false, FslicesClone_int⟩
theorem okslicesClone_int : CalleeOk Go.Proofs.Try.prog 125 SslicesClone_int := ⟨by
  have h := clone_ok layslicesClone_int (Option.get (Go.Proofs.Try.prog.info? 3) (by kernel_rfl)) (Option.get (Option.get (Go.Proofs.Try.prog.info? 3) (by kernel_rfl)).zero (by kernel_rfl)) 1 8 (Option.some_get _).symm (Option.some_get _).symm (by kernel_rfl) (by kernel_rfl) (by kernel_rfl) (by decide) Go.Proofs.Try.sizeOf3
  unfold SslicesClone_int FslicesClone_int
  rw [veil_eq]
  exact h, _, Go.Proofs.Try.func125, by kernel_rfl, by kernel_rfl⟩
theorem FslicesClone_int_at {α : Type} {f : α → List C} (hf : ∀ x, (f x).length = 1 ∧ ∀ c ∈ f x, ∃ v : Value, c = .v v) (nl : Option Bool) (l : List α) (h : l.length * 8 ≤ 140737488355328) : FslicesClone_int [.one (.sl false nl 1 (l.map f))] = some (.one (.sl true nl 1 (l.map f)), [.one .unk]) := (congrFun (veil_eq _) _).trans (clone_at (fun row hr => by obtain ⟨x, _, rfl⟩ := List.mem_map.1 hr; exact hf x) (by simpa using h))
theorem layslicesClone_iSlot : SlLaysE0.n41 Go.Proofs.Try.prog (rho 159 82 144) := ⟨follows, ⟨Go.Proofs.Try.f159.name, by kernel_rfl, by kernel_rfl⟩, Go.Proofs.Try.underlying4, Go.Proofs.Try.isAgg4, Go.Proofs.Try.sizeOf4, Go.Proofs.Try.zeroValue4, Go.Proofs.Try.underlying82, Go.Proofs.Try.isAgg82, Go.Proofs.Try.sizeOf82, Go.Proofs.Try.zeroValue82⟩
noncomputable def FslicesClone_iSlot : List S → Option Res := veil (cloneRun 2 16)
noncomputable def SslicesClone_iSlot : Spec := ⟨[.ro], false, FslicesClone_iSlot⟩
theorem okslicesClone_iSlot : CalleeOk Go.Proofs.Try.prog 159 SslicesClone_iSlot := ⟨by
  have h := clone_ok layslicesClone_iSlot (Option.get (Go.Proofs.Try.prog.info? 144) (by kernel_rfl)) (Option.get (Option.get (Go.Proofs.Try.prog.info? 144) (by kernel_rfl)).zero (by kernel_rfl)) 2 16 (Option.some_get _).symm (Option.some_get _).symm (by kernel_rfl) (by kernel_rfl) (by kernel_rfl) (by decide) Go.Proofs.Try.sizeOf144
  unfold SslicesClone_iSlot FslicesClone_iSlot
  rw [veil_eq]
  exact h, _, Go.Proofs.Try.func159, by kernel_rfl, by kernel_rfl⟩
theorem FslicesClone_iSlot_at {α : Type} {f : α → List C} (hf : ∀ x, (f x).length = 2 ∧ ∀ c ∈ f x, ∃ v : Value, c = .v v) (nl : Option Bool) (l : List α) (h : l.length * 16 ≤ 140737488355328) : FslicesClone_iSlot [.one (.sl false nl 2 (l.map f))] = some (.one (.sl true nl 2 (l.map f)), [.one .unk]) := (congrFun (veil_eq _) _).trans (clone_at (fun row hr => by obtain ⟨x, _, rfl⟩ := List.mem_map.1 hr; exact hf x) (by simpa using h))
theorem layslicesDelete_iSlot : SlLaysE0.n45 Go.Proofs.Try.prog (rho 187 82 144) := ⟨follows, ⟨Go.Proofs.Try.f187.name, by kernel_rfl, by kernel_rfl⟩, Go.Proofs.Try.underlying0, Go.Proofs.Try.isAgg0, Go.Proofs.Try.sizeOf0, Go.Proofs.Try.zeroValue0, Go.Proofs.Try.underlying3, Go.Proofs.Try.isAgg3, Go.Proofs.Try.sizeOf3, Go.Proofs.Try.zeroValue3, Go.Proofs.Try.underlying4, Go.Proofs.Try.isAgg4, Go.Proofs.Try.sizeOf4, Go.Proofs.Try.zeroValue4, Go.Proofs.Try.underlying82, Go.Proofs.Try.isAgg82, Go.Proofs.Try.sizeOf82, Go.Proofs.Try.zeroValue82⟩
noncomputable def FslicesDelete_iSlot : List S → Option Res := veil (delRun 2)
noncomputable def SslicesDelete_iSlot : Spec := ⟨[.tk, .ro, .ro], false, FslicesDelete_iSlot⟩
theorem okslicesDelete_iSlot : CalleeOk Go.Proofs.Try.prog 187 SslicesDelete_iSlot := ⟨by
  have h := delete_ok layslicesDelete_iSlot (Option.get (Go.Proofs.Try.prog.info? 144) (by kernel_rfl)) _ 2 (Option.some_get _).symm (by kernel_rfl) (by rfl) (by decide) Go.Proofs.Try.zeroValue144 Go.Proofs.Try.sizeOf144
  unfold SslicesDelete_iSlot FslicesDelete_iSlot
  rw [veil_eq]
  exact h, _, Go.Proofs.Try.func187, by kernel_rfl, by kernel_rfl⟩
theorem FslicesDelete_iSlot_at {α : Type} {f : α → List C} (hf : ∀ x, (f x).length = 2 ∧ ∀ c ∈ f x, ∃ v : Value, c = .v v) (nl : Option Bool) (x : α) (l : List α) : FslicesDelete_iSlot [.one (.sl true nl 2 (f x :: l.map f)), .one (.int 0), .one (.int 1)] = some (.one (.sl true nl 2 (l.map f)), [.one .unk, .one .unk, .one .unk]) := (congrFun (veil_eq _) _).trans (del_at (plain_map hf (x :: l)))
theorem one_plain (x : Int) : (encInt x).length = 1 ∧ ∀ c ∈ encInt x, ∃ v : Value, c = .v v := ⟨rfl, fun c hc => ⟨_, by simpa using hc⟩⟩
theorem slot_plain (s : Slot) : (encSlot s).length = 2 ∧ ∀ c ∈ encSlot s, ∃ v : Value, c = .v v := ⟨rfl, fun c hc => by
  rcases (by simpa using hc : c = C.int s.a ∨ c = C.int s.v) with h | h <;> exact ⟨_, h⟩⟩
theorem foldl_snoc {α : Type} (l acc : List α) : l.foldl (fun a x => a ++ [x]) acc = acc ++ l := by
  induction l generalizing acc with
  | nil => simp
  | cons x l ih => simp [ih]
def clamp (n : Int) : Int := if (if -1000000 < n then n else -1000000) < 1000000 then if -1000000 < n then n else -1000000 else 1000000
/-- What a thread reads at an address. -/
def readT (b : List Slot) (cells : List Int) (a : Int) : Int := match b.reverse.find? fun s => s.a == a with
  | some s => s.v
  | none => cells[a.toNat]?.getD 0
theorem iter_down {h : Sh} {fb : h.K → h.K} (n : Nat) (ev : Int → h.K → Option Res) (g : Nat → Option Res) (hn : n < 4611686018427387904) (h0 : ∀ nx, ev (-1) (fb nx) = g 0)
    (h1 : ∀ nx (k : Nat), k < n → W ((k : Int) - 1) = (k : Int) - 1 → (ev (k : Int) (fb nx) = ev ((k : Int) - 1) nx ∧ g (k + 1) = g k) ∨ ev (k : Int) (fb nx) = g (k + 1)) : ev ((n : Int) - 1) (iterC fb FUEL) = g n := by
  have key : ∀ (j k : Nat), k < j → k ≤ n → ev ((k : Int) - 1) (iterC fb j) = g k := by
    intro j
    induction j with
    | zero => intro k h1 h2; omega
    | succ j ih =>
      intro k hj hk
      rw [iterC_succ]
      cases k with
      | zero => exact h0 _
      | succ k =>
        have e : (((k + 1 : Nat) : Int) - 1) = (k : Int) := by omega
        rw [e]
        rcases h1 (iterC fb j) k (by omega) (W_eq (by omega) (by omega)) with ⟨h2, h3⟩ | h2
        · rw [h2, h3]; exact ih k (by omega) (by omega)
        · exact h2
  exact key FUEL n (by rw [FUEL_eq]; omega) (Nat.le_refl _)
/-! iMem_own: (loop.example/g00712/impl.Mem).own -/
noncomputable def QiMem_own : Fx := ⟨Go.Proofs.Try.f158, [.ro], false, mkEnv tys_m3 [(125, SslicesClone_int)] [], fun _ => .stop, []⟩
noncomputable def FiMem_own : List S → Option Res := veil QiMem_own.run
noncomputable def SiMem_own : Spec := ⟨[.ro], false, FiMem_own⟩
theorem miMem_own (x1 : List (List C)) : FiMem_own [.agg [.sl false none 1 x1]] = cV false [.sl 1] (FslicesClone_int [.one (.sl false none 1 x1)]) fun o1 l1 => fr false 1 [.agg [.sl true none 1 l1]] := Fx.eq (by kernel_rfl)
theorem okiMem_own : CalleeOk Go.Proofs.Try.prog 158 SiMem_own := Fx.ok (F := QiMem_own) follows (envTy_mk tys_m3_eq) (envSpec_of (specsOk_cons okslicesClone_int specsOk_nil)) Go.Proofs.Try.func158 (by kernel_rfl) (by kernel_rfl) (by rw [show subs QiMem_own.code = [] by kernel_rfl]; trivial) (by kernel_rfl) (by kernel_rfl) rfl
theorem FiMem_own_at (l : List Int) (h : l.length ≤ 1048576) : FiMem_own [S.agg [C.sl false none 1 (l.map encInt)]] = some (S.agg [C.sl true none 1 (l.map encInt)], [S.one C.unk]) := by
  rw [miMem_own, FslicesClone_int_at one_plain _ _ (by omega)]
  simp
/-! iMachine_own: (loop.example/g00712/impl.Machine).own -/
@[reducible] def hiMachine_own_3 : Sh := ⟨[.one (.o (.pl 1 0 [])), .one (.o (.pl 4 0 [])), .one (.o (.sl false 3)), .one (.o (.i .i64)), .one (.o (.i .i64))], [(false, [.o (.sl false 1), .o (.sl false 3)]), (false, [.o (.sl true 1), .o (.sl true 3)]), (true, [.o .u]), (true, [.o .u]), (false, [.o (.sl true 1), .o (.sl true 3)])]⟩
@[reducible] def xiMachine_own_3 : List (Ex × Sh) := [(.exit 0, ⟨[.one (.o (.pl 1 0 [])), .one (.o (.pl 4 0 []))], [(false, [.o (.sl false 1), .o (.sl false 3)]), (false, [.o (.sl true 1), .o (.sl true 3)]), (true, [.o .u]), (true, [.o .u]), (false, [.o (.sl true 1), .o (.sl true 3)])]⟩)]
noncomputable def RiMachine_own_3 : KC xiMachine_own_3 (hiMachine_own_3.K → hiMachine_own_3.K) := fun k0 nx v1 v2 v3 v4 v5 v6 v7 v8 v9 v10 v11 v12 v13 v14 v15 v16 => bif decide (v4 < v3) then ix v4 v2 ((v2[Int.toNat v4]?).bind fun w1 => tRo [.int .i64, .sl 1, .sl 2] w1 fun n1 _ l2 _ l3 => cV false [.sl 1] (FslicesClone_int [.one (.sl false none 1 l2)]) fun o2 l4 => cV false [.sl 2] (FslicesClone_iSlot [.one (.sl false none 2 l3)]) fun o3 l5 => if (v16.length + 1) * 56 ≤ LIM then nx v1 v2 v3 (W (v4 + 1)) v5 v6 v7 v8 v9 v10 v11 v12 v13 v14 none (v16 ++ [[.int n1, .sl true none 1 l4, .sl true none 2 l5]]) else none) else k0 v5 v6 v7 v8 v9 v10 v11 v12 v13 v14 v15 v16
noncomputable def LiMachine_own_3 : Lp := ⟨3, [2, 3, 11, 12, 13], [2, 3], 5, 33, hiMachine_own_3, xiMachine_own_3, RiMachine_own_3⟩
noncomputable def QiMachine_own : Fx := ⟨Go.Proofs.Try.f107, [.ro], false, mkEnv tys_m3 [(125, SslicesClone_int), (158, SiMem_own), (159, SslicesClone_iSlot)] [], fun id => bif Nat.beq id 5 then .sq [0, 1, 2, 3, 4, 5, 7, 8, 6, 9, 10, 11, 12, 13, 14] .stop else .stop, [LiMachine_own_3]⟩
noncomputable def FiMachine_own : List S → Option Res := veil QiMachine_own.run
noncomputable def SiMachine_own : Spec := ⟨[.ro], false, FiMachine_own⟩
theorem miMachine_own (x1 : List (List C)) (x2 : List (List C)) : FiMachine_own [.agg [.sl false none 1 x1, .sl false none 3 x2]] = cV true [.sl 1] (FiMem_own [.agg [.sl false none 1 x1]]) fun o1 l1 => iterC (RiMachine_own_3 (fun y1 y2 y3 y4 y5 y6 y7 y8 y9 y10 y11 y12 => fr false 1 [.agg [.sl true none 1 y10, .sl true none 3 y12]])) FUEL none x2 (x2.length : Int) 0 none x1 none x2 (some true) [] (some true) [] none l1 none [] := Fx.eq (by kernel_rfl)
theorem stiMachine_own_3 : LiMachine_own_3.Step QiMachine_own.E QiMachine_own.dr QiMachine_own.lp ((findLoop 3 QiMachine_own.code).getD .skip) := fun k nx v => by kernel_rfl
theorem okiMachine_own : CalleeOk Go.Proofs.Try.prog 107 SiMachine_own := Fx.ok (F := QiMachine_own) follows (envTy_mk tys_m3_eq) (envSpec_of (specsOk_cons okslicesClone_int (specsOk_cons okiMem_own (specsOk_cons okslicesClone_iSlot specsOk_nil)))) Go.Proofs.Try.func107 (by kernel_rfl) (by kernel_rfl) (by
  rw [show subs QiMachine_own.code = [(findLoop 3 QiMachine_own.code).getD .skip] by kernel_rfl]
  exact ⟨stepAt_some (by kernel_rfl) stiMachine_own_3, trivial⟩) (by kernel_rfl) (by kernel_rfl) rfl
theorem FiMachine_own_at (m : Machine) (h : m.cells.length ≤ 1048576 ∧ bT m.ths) : FiMachine_own [S.agg (encMa false m)] = some (S.agg (encMa true m), [S.one C.unk]) := by
  obtain ⟨cells, ths⟩ := m
  obtain ⟨h1, h2, h3⟩ := h
  simp only at h1 h2 h3
  rw [miMachine_own, FiMem_own_at _ h1]
  simp only [cV, Option.bind_some, tOne, tOwn, tRes, id]
  refine (iter_fold (h := hiMachine_own_3) ths (fun i (a : List Thread) f => f none (ths.map (encTh false)) ((ths.map (encTh false)).length : Int) (i : Int) none (cells.map encInt) none (ths.map (encTh false)) (some true) [] (some true) [] none (cells.map encInt) none (a.map (encTh true))) (fun a t => a ++ [t]) (fun a => fr false 1 [.agg (encMa true ⟨cells, a⟩)]) (fun i a => a.length = i) (by omega) ?_ ?_ [] rfl).trans ?_
  · intro nx a ha; simp [RiMachine_own_3]
  · intro nx i a hi ha hW
    have ht := h3 _ (List.getElem_mem hi)
    refine ⟨by simp [ha], ?_⟩
    have hL : (a.length + 1) * 56 ≤ LIM := by unfold LIM; omega
    simp [RiMachine_own_3, hi, hW, FslicesClone_int_at one_plain _ _ (show ths[i].vals.length * 8 ≤ 140737488355328 by omega), FslicesClone_iSlot_at slot_plain _ _ (show ths[i].buf.length * 16 ≤ 140737488355328 by omega), hL]
  · rw [foldl_snoc]; simp
/-! iClamp: loop.example/g00712/impl.Clamp -/
noncomputable def QiClamp : Fx := ⟨Go.Proofs.Try.f188, [.ro], false, mkEnv tys_m3 [] [], fun _ => .stop, []⟩
noncomputable def FiClamp : List S → Option Res := veil QiClamp.run
noncomputable def SiClamp : Spec := ⟨[.ro], false, FiClamp⟩
theorem miClamp (x1 : Int) : FiClamp [.one (.int x1)] = fr false 1 [.one (.int (if (if x1 > (-1000000) then x1 else ((-1000000) : Int)) < 1000000 then (if x1 > (-1000000) then x1 else ((-1000000) : Int)) else (1000000 : Int)))] := Fx.eq (by kernel_rfl)
theorem okiClamp : CalleeOk Go.Proofs.Try.prog 188 SiClamp := Fx.ok (F := QiClamp) follows (envTy_mk tys_m3_eq) (envSpec_of (specsOk_nil)) Go.Proofs.Try.func188 (by kernel_rfl) (by kernel_rfl) (by rw [show subs QiClamp.code = [] by kernel_rfl]; trivial) (by kernel_rfl) (by kernel_rfl) rfl
theorem FiClamp_at (n : Int) : FiClamp [S.one (C.int n)] = some (S.one (C.int (clamp n)), [S.one C.unk]) := by
  rw [miClamp]
  simp [clamp]
/-! iMem_has: (loop.example/g00712/impl.Mem).has -/
noncomputable def QiMem_has : Fx := ⟨Go.Proofs.Try.f207, [.ro, .ro], false, mkEnv tys_m3 [(85, Siwithin)] [], fun _ => .stop, []⟩
noncomputable def FiMem_has : List S → Option Res := veil QiMem_has.run
noncomputable def SiMem_has : Spec := ⟨[.ro, .ro], false, FiMem_has⟩
theorem miMem_has (x1 : List (List C)) (x2 : Int) : FiMem_has [.agg [.sl false none 1 x1], .one (.int x2)] = cV false [.bool] (Fiwithin [.one (.int x2), .one (.int 0), .one (.int (W ((x1.length : Int) - 1)))]) fun b1 => fr false 2 [.one (.bool b1)] := Fx.eq (by kernel_rfl)
theorem okiMem_has : CalleeOk Go.Proofs.Try.prog 207 SiMem_has := Fx.ok (F := QiMem_has) follows (envTy_mk tys_m3_eq) (envSpec_of (specsOk_cons okiwithin specsOk_nil)) Go.Proofs.Try.func207 (by kernel_rfl) (by kernel_rfl) (by rw [show subs QiMem_has.code = [] by kernel_rfl]; trivial) (by kernel_rfl) (by kernel_rfl) rfl
theorem FiMem_has_at (l : List Int) (a : Int) (h : l.length ≤ 1048576) : FiMem_has [S.agg [C.sl false none 1 (l.map encInt)], S.one (C.int a)] = some (S.one (C.bool (inB a 0 ((l.length : Int) - 1))), [S.one C.unk, S.one C.unk]) := by
  have e : W ((l.length : Int) - 1) = (l.length : Int) - 1 := W_eq (by omega) (by omega)
  simp [miMem_has, Fiwithin_at, e]
/-! iPeek: loop.example/g00712/impl.Peek -/
noncomputable def QiPeek : Fx := ⟨Go.Proofs.Try.f200, [.ro, .ro], false, mkEnv tys_m3 [(182, SiMemOk), (207, SiMem_has)] [], fun _ => .stop, []⟩
noncomputable def FiPeek : List S → Option Res := veil QiPeek.run
noncomputable def SiPeek : Spec := ⟨[.ro, .ro], false, FiPeek⟩
theorem miPeek (x1 : List (List C)) (x2 : Int) : FiPeek [.agg [.sl false none 1 x1], .one (.int x2)] = cV false [.bool] (FiMemOk [.agg [.sl false none 1 x1]]) fun b1 => bif !b1 then fr false 2 [.one (.int 0)] else cV false [.bool] (FiMem_has [.agg [.sl false none 1 x1], .one (.int x2)]) fun b2 => bif !b2 then fr false 2 [.one (.int 0)] else ix x2 x1 ((x1[Int.toNat x2]?).bind fun w1 => tRo [.int .i64] w1 fun n1 => fr false 2 [.one (.int n1)]) := Fx.eq (by kernel_rfl)
theorem okiPeek : CalleeOk Go.Proofs.Try.prog 200 SiPeek := Fx.ok (F := QiPeek) follows (envTy_mk tys_m3_eq) (envSpec_of (specsOk_cons okiMemOk (specsOk_cons okiMem_has specsOk_nil))) Go.Proofs.Try.func200 (by kernel_rfl) (by kernel_rfl) (by rw [show subs QiPeek.code = [] by kernel_rfl]; trivial) (by kernel_rfl) (by kernel_rfl) rfl
theorem FiPeek_at (l : List Int) (a : Int) (h : l.length ≤ 1048576 ∧ memOk l = true ∧ 0 ≤ a ∧ a < l.length) : FiPeek [S.agg [C.sl false none 1 (l.map encInt)], S.one (C.int a)] = some (S.one (C.int (l[a.toNat]?.getD 0)), [S.one C.unk, S.one C.unk]) := by
  obtain ⟨h1, h2, h3, h4⟩ := h
  obtain ⟨n, rfl⟩ := Int.eq_ofNat_of_zero_le h3
  have hn : n < l.length := by omega
  have e : inB (n : Int) 0 ((l.length : Int) - 1) = true := by simp [inB]; omega
  simp [miPeek, FiMemOk_at _ (show smallL l by omega), FiMem_has_at _ _ h1, h2, e, hn]
/-! iReadThrough: loop.example/g00712/impl.ReadThrough -/
@[reducible] def hiReadThrough_4 : Sh := ⟨[.one (.o (.sl false 2)), .one (.o (.i .i64)), .one (.o (.pl 0 0 [])), .one (.o (.i .i64))], [(false, [.o (.sl false 1)])]⟩
@[reducible] def xiReadThrough_4 : List (Ex × Sh) := [(.ret, ⟨[.one (.o (.i .i64)), .one (.o (.pl 0 0 [])), .one (.o (.i .i64))], [(false, [.o (.sl false 1)])]⟩), (.exit 0, ⟨[.one (.o (.i .i64)), .one (.o (.pl 0 0 [])), .one (.o .u)], [(false, [.o (.sl false 1)])]⟩)]
noncomputable def RiReadThrough_4 : KC xiReadThrough_4 (hiReadThrough_4.K → hiReadThrough_4.K) := fun k0 k1 nx v1 v2 v3 v4 v5 v6 => bif decide (v4 ≥ 0) then ix v4 v2 ((v2[Int.toNat v4]?).bind fun w1 => tRo [.int .i64] w1 fun n1 => bif n1 == v3 then ix v4 v2 ((v2[Int.toNat v4]?).bind fun w2 => tRo [.int .i64] (List.drop 1 w2) fun n2 => k0 v3 n2 v5 v6) else nx v1 v2 v3 (W (v4 - 1)) v5 v6) else k1 v3 v5 v6
noncomputable def LiReadThrough_4 : Lp := ⟨4, [0, 2, 4, 7], [2, 4, 6], 1, 38, hiReadThrough_4, xiReadThrough_4, RiReadThrough_4⟩
noncomputable def QiReadThrough : Fx := ⟨Go.Proofs.Try.f189, [.ro, .ro, .ro], false, mkEnv tys_m3 [(182, SiMemOk), (184, SiBufOk), (200, SiPeek)] [], fun _ => .stop, [LiReadThrough_4]⟩
noncomputable def FiReadThrough : List S → Option Res := veil QiReadThrough.run
noncomputable def SiReadThrough : Spec := ⟨[.ro, .ro, .ro], false, FiReadThrough⟩
theorem miReadThrough (x1 : Option Bool) (x2 : List (List C)) (x3 : List (List C)) (x4 : Int) : FiReadThrough [.one (.sl false x1 2 x2), .agg [.sl false none 1 x3], .one (.int x4)] = cV false [.bool] (FiBufOk [.one (.sl false x1 2 x2)]) fun b1 => bif !b1 then fr false 3 [.one (.int 0)] else cV false [.bool] (FiMemOk [.agg [.sl false none 1 x3]]) fun b2 => bif !b2 then fr false 3 [.one (.int 0)] else iterC (RiReadThrough_4 (fun y1 y2 y3 y4 => fr false 3 [.one (.int y2)]) (fun y5 y6 y7 => cV false [.int .i64] (FiPeek [.agg [.sl false none 1 y7], .one (.int y5)]) fun n1 => fr false 3 [.one (.int n1)])) FUEL x1 x2 x4 (W ((x2.length : Int) - 1)) none x3 := Fx.eq (by kernel_rfl)
theorem stiReadThrough_4 : LiReadThrough_4.Step QiReadThrough.E QiReadThrough.dr QiReadThrough.lp ((findLoop 4 QiReadThrough.code).getD .skip) := fun k nx v => by kernel_rfl
theorem okiReadThrough : CalleeOk Go.Proofs.Try.prog 189 SiReadThrough := Fx.ok (F := QiReadThrough) follows (envTy_mk tys_m3_eq) (envSpec_of (specsOk_cons okiMemOk (specsOk_cons okiBufOk (specsOk_cons okiPeek specsOk_nil)))) Go.Proofs.Try.func189 (by kernel_rfl) (by kernel_rfl) (by
  rw [show subs QiReadThrough.code = [(findLoop 4 QiReadThrough.code).getD .skip] by kernel_rfl]
  exact ⟨stepAt_some (by kernel_rfl) stiReadThrough_4, trivial⟩) (by kernel_rfl) (by kernel_rfl) rfl
theorem FiReadThrough_at (nl : Option Bool) (b : List Slot) (l : List Int) (a : Int) (h : l.length ≤ 1048576 ∧ memOk l = true ∧ bufOk b = true ∧ 0 ≤ a ∧ a < l.length) : FiReadThrough [S.one (C.sl false nl 2 (b.map encSlot)), S.agg [C.sl false none 1 (l.map encInt)], S.one (C.int a)] = some (S.one (C.int (readT b l a)), [S.one C.unk, S.one C.unk, S.one C.unk]) := by
  obtain ⟨h1, h2, h3, h4, h5⟩ := h
  have hb : b.length ≤ 3 := by
    simp only [bufOk, Bool.and_eq_true, decide_eq_true_eq] at h3; exact h3.1
  have hw : W (((b.map encSlot).length : Int) - 1) = (b.length : Int) - 1 := by rw [List.length_map]; exact W_eq (by omega) (by omega)
  rw [miReadThrough, FiBufOk_at _ _ (show smallL b by omega), FiMemOk_at _ (show smallL l by omega), h2, h3, hw]
  simp only [cV, Option.bind_some, tOne, tOwn, tRes, id]
  refine (iter_down (h := hiReadThrough_4) b.length (fun i f => f nl (b.map encSlot) a i none (l.map encInt)) (fun k => some (.one (.int (readT (b.take k) l a)), [.one .unk, .one .unk, .one .unk])) (by omega) ?_ ?_).trans ?_
  · intro nx; simp [RiReadThrough_4, readT, FiPeek_at _ _ ⟨h1, h2, h4, h5⟩]
  · intro nx k hk hW
    have hr : (b.take (k + 1)).reverse = b[k] :: (b.take k).reverse := by
      rw [List.take_add_one, List.getElem?_eq_getElem hk]; simp
    by_cases e : b[k].a = a
    · right
      simp [RiReadThrough_4, readT, hr, hk, e]
    · left
      have e' : (b[k].a == a) = false := by simpa using e
      refine ⟨by simp [RiReadThrough_4, hk, e', hW], by simp [readT, hr, e']⟩
  · simp
end Go.Proofs.Gh.Gm
set_option linter.unusedVariables false
set_option linter.unusedSimpArgs false
set_option maxRecDepth 100000
set_option maxHeartbeats 2000000
namespace Go.Proofs.Gh.Gm
def tys_m4 : List (Nat × TI) := [(3, ⟨false, 8, [.int .i64], [.int 0], .scalar, false, none⟩),
  (4, ⟨false, 1, [.bool], [.bool false], .scalar, false, none⟩),
  (23, ⟨false, 24, [.sl 1], [.sl true (some true) 1 []], .slice 3, false, none⟩),
  (64, ⟨false, 24, [.sl 1], [.sl true (some true) 1 []], .slice 69, false, none⟩),
  (66, ⟨true, 32, [.int .i64, .sl 1], [.int 0, .sl true (some true) 1 []], .struct [(0, 1, false), (1, 1, false)], false, none⟩),
  (69, ⟨false, 24, [.sl 4], [.sl true (some true) 4 []], .slice 135, false, none⟩),
  (71, ⟨true, 24, [.sl 1], [.sl true (some true) 1 []], .struct [(0, 1, false)], false, none⟩),
  (72, ⟨false, 24, [.sl 3], [.sl true (some true) 3 []], .slice 84, false, none⟩),
  (74, ⟨true, 48, [.sl 1, .sl 3], [.sl true (some true) 1 [], .sl true (some true) 3 []], .struct [(0, 1, true), (1, 1, false)], false, none⟩),
  (82, ⟨false, 24, [.sl 2], [.sl true (some true) 2 []], .slice 144, false, none⟩),
  (84, ⟨true, 56, [.int .i64, .sl 1, .sl 2], [.int 0, .sl true (some true) 1 [], .sl true (some true) 2 []], .struct [(0, 1, false), (1, 1, false), (2, 1, false)], false, none⟩),
  (135, ⟨true, 32, [.int .i64, .int .i64, .int .i64, .int .i64], [.int 0, .int 0, .int 0, .int 0], .struct [(0, 1, false), (1, 1, false), (2, 1, false), (3, 1, false)], true, none⟩),
  (144, ⟨true, 16, [.int .i64, .int .i64], [.int 0, .int 0], .struct [(0, 1, false), (1, 1, false)], true, none⟩),
  (198, ⟨false, 8, [.other], [.v (Value.pointer none)], .scalar, false, none⟩),
  (199, ⟨false, 8, [.other], [.v (Value.pointer none)], .scalar, false, none⟩),
  (201, ⟨false, 8, [.other], [.v (Value.pointer none)], .scalar, false, none⟩)]
theorem tys_m4_eq : tys_m4.map (fun x => tiOf Go.Proofs.Try.prog x.1 x.2.cks) = tys_m4.map fun x => some x.2 := by kernel_rfl
theorem md_pc {l : List Thread} {t : Nat} (h : t < l.length) (v : Int) : md (l.map (encTh true)) t 0 (.int v) = (l.set t { l[t] with pc := v }).map (encTh true) := by
  apply List.ext_getElem?
  intro k
  simp only [md, List.getElem?_modify, List.getElem?_map, List.getElem?_set]
  by_cases e : t = k
  · subst e; simp [h]
  · simp [e]
theorem md_val {l : List Thread} {t : Nat} (h : t < l.length) (r : Nat) (v : Int) : List.modify (l.map (encTh true)) t (fun row => row.modify 1 (plant [⟨r, 0, 1⟩] (.int v))) = (l.set t { l[t] with vals := l[t].vals.set r v }).map (encTh true) := by
  apply List.ext_getElem?
  intro k
  simp only [List.getElem?_modify, List.getElem?_map, List.getElem?_set]
  by_cases e : t = k
  · subst e
    simp [h]
    apply List.ext_getElem?
    intro j
    simp only [List.getElem?_modify, List.getElem?_map, List.getElem?_set]
    by_cases e : r = j
    · subst e
      by_cases hr : r < l[t].vals.length <;> simp [hr]
    · simp [e]
  · simp [e]
theorem md_push {l : List Thread} {t : Nat} (h : t < l.length) (b : List Slot) (a v : Int) : md (l.map (encTh true)) t 2 (.sl true none 2 (b.map encSlot ++ [[.int a, .int v]])) = (l.set t { l[t] with buf := b ++ [⟨a, v⟩] }).map (encTh true) := by
  apply List.ext_getElem?
  intro k
  simp only [md, List.getElem?_modify, List.getElem?_map, List.getElem?_set]
  by_cases e : t = k
  · subst e; simp [h]
  · simp [e]
theorem md_int {l : List Int} {i : Nat} (h : i < l.length) (v : Int) : md (l.map encInt) i 0 (.int v) = (l.set i v).map encInt := by
  apply List.ext_getElem?
  intro k
  simp only [md, List.getElem?_modify, List.getElem?_map, List.getElem?_set]
  by_cases e : i = k
  · subst e; simp [h]
  · simp [e]
def instrAt (p : Prog) (m : Machine) (t : Nat) : Option Instr := (m.ths[t]?).bind fun th => (p.codes[t]?).bind fun c => c[th.pc.toNat]?
def execI (m : Machine) (t : Nat) (th : Thread) (i : Instr) : Machine :=
  let r := th.vals[i.r.toNat]?.getD 0
  let s := th.vals[i.s.toNat]?.getD 0
  let c := m.cells[i.n.toNat]?.getD 0
  let put := fun th' : Thread => m.ths.set t th'
  let setR := fun v : Int => put { th with pc := th.pc + 1, vals := th.vals.set i.r.toNat v }
  bif i.op == 0 then { m with ths := setR i.n }
  else bif i.op == 1 then { m with ths := setR (clamp (r + s)) }
  else bif i.op == 8 then { m with ths := setR (clamp (r - s)) }
  else bif i.op == 2 then { m with ths := setR (readT th.buf m.cells i.n) }
  else bif i.op == 3 then { m with ths := put { th with pc := th.pc + 1, buf := th.buf ++ [⟨i.n, r⟩] } }
  else bif i.op == 5 then bif c == r then ⟨m.cells.set i.n.toNat s, setR 1⟩ else { m with ths := setR 0 }
  else bif i.op == 6 then { m with ths := put { th with pc := bif r == 0 then i.n else th.pc + 1 } }
  else bif i.op == 7 then ⟨m.cells.set i.n.toNat s, setR c⟩
  else { m with ths := put { th with pc := th.pc + 1 } }
def execM (p : Prog) (m : Machine) (t : Nat) : Machine :=
  match m.ths[t]?, instrAt p m t with
  | some th, some i => execI m t th i
  | _, _ => m
def exOk (p : Prog) (m : Machine) (t : Nat) : Prop := progOk p = true ∧ isMa p m = true ∧ ∃ i th, instrAt p m t = some i ∧ m.ths[t]? = some th ∧ (i.op = 3 → th.buf.length < 3)
theorem exOk_get {p : Prog} {m : Machine} {t : Nat} (h : exOk p m t) : ∃ (ht : t < m.ths.length) (hc : t < p.codes.length) (n : Nat) (hn : n < p.codes[t].length), m.ths[t].pc = (n : Int) ∧ thOk p.cells m.ths[t] p.codes[t] = true ∧ instrOk p.codes[t][n] p.cells p.codes[t].length = true ∧ memOk m.cells = true ∧ (m.cells.length : Int) = p.cells ∧ p.codes[t].length ≤ 16 ∧
    (p.codes[t][n].op = 3 → m.ths[t].buf.length < 3) ∧ execM p m t = execI m t m.ths[t] p.codes[t][n] := by
  obtain ⟨h1, h2, i, th, h3, h4, h5⟩ := h
  obtain ⟨ht, rfl⟩ := List.getElem?_eq_some_iff.1 h4
  obtain ⟨hc, hth⟩ := isMa_th h2 ht
  have hp := (thOk_iff.1 hth).1
  simp only [instrAt, h4, Option.bind_some, List.getElem?_eq_getElem hc] at h3
  obtain ⟨n, hn⟩ := Int.eq_ofNat_of_zero_le hp.1
  rw [hn, Int.toNat_natCast] at h3
  obtain ⟨hlt, rfl⟩ := List.getElem?_eq_some_iff.1 h3
  have hpo : codeOk p.cells p.codes[t] = true := by
    simp only [progOk, Bool.and_eq_true, List.all_eq_true] at h1
    exact h1.2 _ (List.getElem_mem hc)
  simp only [codeOk, Bool.and_eq_true, List.all_eq_true, decide_eq_true_eq] at hpo
  simp only [isMa, Bool.and_eq_true, decide_eq_true_eq] at h2
  refine ⟨ht, hc, n, hlt, hn, hth, hpo.2 _ (List.getElem_mem hlt), h2.1.1.1, h2.1.1.2, hpo.1, h5, ?_⟩
  simp only [execM, instrAt, h4, Option.bind_some, List.getElem?_eq_getElem hc, hn, Int.toNat_natCast, h3]
/-! iMachine_execute: (*loop.example/g00712/impl.Machine).execute -/
noncomputable def QiMachine_execute : Fx := ⟨Go.Proofs.Try.f161, [.io, .ro, .ro], false, mkEnv tys_m4 [(188, SiClamp), (189, SiReadThrough)] [], fun id => bif Nat.beq id 2 then .sq [0, 1, 2, 3, 4, 5, 6, 7, 8, 9, 10, 11, 12] .stop else bif Nat.beq id 4 then .sq [0, 1, 2, 3, 4, 5, 6, 7, 8, 9, 10, 11, 12, 13, 14, 15, 16, 17, 18, 19, 20, 21, 22] .stop else bif Nat.beq id 13 then .sq [0, 1, 2, 3, 4, 5, 6, 7, 8, 9, 10, 11, 12, 13] .stop else bif Nat.beq id 15 then .sq [0, 1, 2, 3, 4, 5, 6, 7, 8, 9, 10, 11, 12, 13, 14, 15] .stop else bif Nat.beq id 17 then .sq [0, 1, 2, 3, 4, 5, 6, 7, 8] .stop else bif Nat.beq id 24 then .sq [0, 1, 2, 3, 4, 5, 6, 7, 8, 9, 10, 11, 12, 13] .stop else .stop, []⟩
noncomputable def FiMachine_execute : List S → Option Res := veil QiMachine_execute.run
noncomputable def SiMachine_execute : Spec := ⟨[.io, .ro, .ro], false, FiMachine_execute⟩
theorem miMachine_execute (x1 : List (List C)) (x2 : List (List C)) (x3 : Int) (x4 : List (List C)) (x5 : Int) : FiMachine_execute [.one (.bx [.sl true none 1 x1, .sl true none 3 x2]), .agg [.int x3, .sl false none 1 x4], .one (.int x5)] = ix x5 x2 (ix x5 x4 ((x4[Int.toNat x5]?).bind fun w1 => tRo [.sl 4] w1 fun _ l1 => (x2[Int.toNat x5]?).bind fun w2 => tOwn [.int .i64] w2 fun n1 => ix n1 l1 ((l1[Int.toNat n1]?).bind fun w3 => tRo [.int .i64, .int .i64, .int .i64, .int .i64] w3 fun n2 n3 n4 n5 => (x2[Int.toNat x5]?).bind fun w4 => tOwn [.int .i64] w4 fun n6 => oc (.int .i64) x2 (Int.toNat x5) 0 ((let e1 : List (List C) := md x2 (Int.toNat x5) 0 (.int (W (n6 + 1))); (e1[Int.toNat x5]?).bind fun w5 => tOwn [.sl 1] (List.drop 1 w5) ((e1[Int.toNat x5]?).bind fun w6 => (w6[1]?).bind fun c1 => (C.asOwn 1 c1).bind fun q1 => ix n3 q1.2 ((e1[Int.toNat x5]?).bind fun w7 => tOwn [.sl 1] (List.drop 1 w7) ((e1[Int.toNat x5]?).bind fun w8 => (w8[1]?).bind fun c2 => (C.asOwn 1 c2).bind fun q2 => ix n4 q2.2 ((e1[Int.toNat x5]?).bind fun w9 => (w9[1]?).bind fun c3 => (C.asOwn 1 c3).bind fun q3 => (q3.2[Int.toNat n4]?).bind fun w10 => tOwn [.int .i64] w10 fun n7 => bif n2 == 0 then (e1[Int.toNat x5]?).bind fun w11 => (w11[1]?).bind fun c4 => (C.asOwn 1 c4).bind fun q4 => (q4.2[Int.toNat n3]?).bind fun w12 => (w12[0]?).bind fun c5 => (C.asInt .i64 c5).bind fun n8 => (let e2 : List (List C) := List.modify e1 (Int.toNat x5) fun row => row.modify 1 (plant [⟨Int.toNat n3, 0, 1⟩] (.int n5)); fin false [.one (.bx [.sl true none 1 x1, .sl true none 3 x2]), .agg [.int x3, .sl false none 1 x4], .one (.int x5)] [] [.one (.bx [.sl true none 1 x1, .sl true none 3 e2]), .one .unk, .one .unk]) else bif n2 == 1 then (e1[Int.toNat x5]?).bind fun w13 => (w13[1]?).bind fun c6 => (C.asOwn 1 c6).bind fun q5 => (q5.2[Int.toNat n3]?).bind fun w14 => tOwn [.int .i64] w14 fun n9 => cV false [.int .i64] (FiClamp [.one (.int (W (n9 + n7)))]) fun n10 => (e1[Int.toNat x5]?).bind fun w15 => (w15[1]?).bind fun c7 => (C.asOwn 1 c7).bind fun q6 => (q6.2[Int.toNat n3]?).bind fun w16 => (w16[0]?).bind fun c8 => (C.asInt .i64 c8).bind fun n11 => (let e3 : List (List C) := List.modify e1 (Int.toNat x5) fun row => row.modify 1 (plant [⟨Int.toNat n3, 0, 1⟩] (.int n10)); fin false [.one (.bx [.sl true none 1 x1, .sl true none 3 x2]), .agg [.int x3, .sl false none 1 x4], .one (.int x5)] [] [.one (.bx [.sl true none 1 x1, .sl true none 3 e3]), .one .unk, .one .unk]) else bif n2 == 8 then (e1[Int.toNat x5]?).bind fun w17 => (w17[1]?).bind fun c9 => (C.asOwn 1 c9).bind fun q7 => (q7.2[Int.toNat n3]?).bind fun w18 => tOwn [.int .i64] w18 fun n12 => cV false [.int .i64] (FiClamp [.one (.int (W (n12 - n7)))]) fun n13 => (e1[Int.toNat x5]?).bind fun w19 => (w19[1]?).bind fun c10 => (C.asOwn 1 c10).bind fun q8 => (q8.2[Int.toNat n3]?).bind fun w20 => (w20[0]?).bind fun c11 => (C.asInt .i64 c11).bind fun n14 => (let e4 : List (List C) := List.modify e1 (Int.toNat x5) fun row => row.modify 1 (plant [⟨Int.toNat n3, 0, 1⟩] (.int n13)); fin false [.one (.bx [.sl true none 1 x1, .sl true none 3 x2]), .agg [.int x3, .sl false none 1 x4], .one (.int x5)] [] [.one (.bx [.sl true none 1 x1, .sl true none 3 e4]), .one .unk, .one .unk]) else bif n2 == 2 then (e1[Int.toNat x5]?).bind fun w21 => tOwn [.sl 2] (List.drop 2 w21) ((e1[Int.toNat x5]?).bind fun w22 => (w22[2]?).bind fun c12 => if C.nested c12 then cV false [.int .i64] (FiReadThrough [.one (C.freeze c12), .agg [.sl false none 1 (freezeRows x1)], .one (.int n5)]) fun n15 => (e1[Int.toNat x5]?).bind fun w23 => (w23[1]?).bind fun c13 => (C.asOwn 1 c13).bind fun q9 => (q9.2[Int.toNat n3]?).bind fun w24 => (w24[0]?).bind fun c14 => (C.asInt .i64 c14).bind fun n16 => (let e5 : List (List C) := List.modify e1 (Int.toNat x5) fun row => row.modify 1 (plant [⟨Int.toNat n3, 0, 1⟩] (.int n15)); fin false [.one (.bx [.sl true none 1 x1, .sl true none 3 x2]), .agg [.int x3, .sl false none 1 x4], .one (.int x5)] [] [.one (.bx [.sl true none 1 x1, .sl true none 3 e5]), .one .unk, .one .unk]) else none) else bif n2 == 3 then (e1[Int.toNat x5]?).bind fun w25 => tOwn [.sl 2] (List.drop 2 w25) ((e1[Int.toNat x5]?).bind fun w26 => (w26[1]?).bind fun c15 => (C.asOwn 1 c15).bind fun q10 => (q10.2[Int.toNat n3]?).bind fun w27 => tOwn [.int .i64] w27 fun n17 => (e1[Int.toNat x5]?).bind fun w28 => (w28[2]?).bind fun c16 => own3 c16 fun o1 m1 l2 => asB 2 (.sl true o1 m1 l2) fun o2 l3 => if (l3.length + 1) * 16 ≤ LIM then ((md e1 (Int.toNat x5) 2 .unk)[Int.toNat x5]?).bind fun w29 => (w29[2]?).bind fun c17 => (let e6 : List (List C) := md (md e1 (Int.toNat x5) 2 .unk) (Int.toNat x5) 2 (.sl true none 2 (l3 ++ [[.int n5, .int n17]])); fin false [.one (.bx [.sl true none 1 x1, .sl true none 3 x2]), .agg [.int x3, .sl false none 1 x4], .one (.int x5)] [] [.one (.bx [.sl true none 1 x1, .sl true none 3 e6]), .one .unk, .one .unk]) else none) else bif n2 == 5 then ix n5 x1 ((x1[Int.toNat n5]?).bind fun w30 => tOwn [.int .i64] w30 fun n18 => (e1[Int.toNat x5]?).bind fun w31 => (w31[1]?).bind fun c18 => (C.asOwn 1 c18).bind fun q11 => (q11.2[Int.toNat n3]?).bind fun w32 => tOwn [.int .i64] w32 fun n19 => bif n18 == n19 then ix n5 x1 (oc (.int .i64) x1 (Int.toNat n5) 0 ((let e7 : List (List C) := md x1 (Int.toNat n5) 0 (.int n7); (e1[Int.toNat x5]?).bind fun w33 => (w33[1]?).bind fun c19 => (C.asOwn 1 c19).bind fun q12 => (q12.2[Int.toNat n3]?).bind fun w34 => (w34[0]?).bind fun c20 => (C.asInt .i64 c20).bind fun n20 => (let e8 : List (List C) := List.modify e1 (Int.toNat x5) fun row => row.modify 1 (plant [⟨Int.toNat n3, 0, 1⟩] (.int 1)); fin false [.one (.bx [.sl true none 1 x1, .sl true none 3 x2]), .agg [.int x3, .sl false none 1 x4], .one (.int x5)] [] [.one (.bx [.sl true none 1 e7, .sl true none 3 e8]), .one .unk, .one .unk])))) else (e1[Int.toNat x5]?).bind fun w35 => (w35[1]?).bind fun c21 => (C.asOwn 1 c21).bind fun q13 => (q13.2[Int.toNat n3]?).bind fun w36 => (w36[0]?).bind fun c22 => (C.asInt .i64 c22).bind fun n21 => (let e9 : List (List C) := List.modify e1 (Int.toNat x5) fun row => row.modify 1 (plant [⟨Int.toNat n3, 0, 1⟩] (.int 0)); fin false [.one (.bx [.sl true none 1 x1, .sl true none 3 x2]), .agg [.int x3, .sl false none 1 x4], .one (.int x5)] [] [.one (.bx [.sl true none 1 x1, .sl true none 3 e9]), .one .unk, .one .unk])) else bif n2 == 6 then (e1[Int.toNat x5]?).bind fun w37 => (w37[1]?).bind fun c23 => (C.asOwn 1 c23).bind fun q14 => (q14.2[Int.toNat n3]?).bind fun w38 => tOwn [.int .i64] w38 fun n22 => bif n22 == 0 then oc (.int .i64) e1 (Int.toNat x5) 0 ((let e10 : List (List C) := md e1 (Int.toNat x5) 0 (.int n5); fin false [.one (.bx [.sl true none 1 x1, .sl true none 3 x2]), .agg [.int x3, .sl false none 1 x4], .one (.int x5)] [] [.one (.bx [.sl true none 1 x1, .sl true none 3 e10]), .one .unk, .one .unk])) else fin false [.one (.bx [.sl true none 1 x1, .sl true none 3 x2]), .agg [.int x3, .sl false none 1 x4], .one (.int x5)] [] [.one (.bx [.sl true none 1 x1, .sl true none 3 e1]), .one .unk, .one .unk] else bif n2 == 7 then ix n5 x1 ((x1[Int.toNat n5]?).bind fun w39 => tOwn [.int .i64] w39 fun n23 => ix n5 x1 (oc (.int .i64) x1 (Int.toNat n5) 0 ((let e11 : List (List C) := md x1 (Int.toNat n5) 0 (.int n7); (e1[Int.toNat x5]?).bind fun w40 => (w40[1]?).bind fun c24 => (C.asOwn 1 c24).bind fun q15 => (q15.2[Int.toNat n3]?).bind fun w41 => (w41[0]?).bind fun c25 => (C.asInt .i64 c25).bind fun n24 => (let e12 : List (List C) := List.modify e1 (Int.toNat x5) fun row => row.modify 1 (plant [⟨Int.toNat n3, 0, 1⟩] (.int n23)); fin false [.one (.bx [.sl true none 1 x1, .sl true none 3 x2]), .agg [.int x3, .sl false none 1 x4], .one (.int x5)] [] [.one (.bx [.sl true none 1 e11, .sl true none 3 e12]), .one .unk, .one .unk]))))) else fin false [.one (.bx [.sl true none 1 x1, .sl true none 3 x2]), .agg [.int x3, .sl false none 1 x4], .one (.int x5)] [] [.one (.bx [.sl true none 1 x1, .sl true none 3 e1]), .one .unk, .one .unk]))))))))) := Fx.eq (by kernel_rfl)
theorem okiMachine_execute : CalleeOk Go.Proofs.Try.prog 161 SiMachine_execute := Fx.ok (F := QiMachine_execute) follows (envTy_mk tys_m4_eq) (envSpec_of (specsOk_cons okiClamp (specsOk_cons okiReadThrough specsOk_nil))) Go.Proofs.Try.func161 (by kernel_rfl) (by kernel_rfl) (by rw [show subs QiMachine_execute.code = [] by kernel_rfl]; trivial) (by kernel_rfl) (by kernel_rfl) rfl
theorem FiMachine_execute_at (p : Prog) (m : Machine) (t : Nat) (h : exOk p m t) : FiMachine_execute [S.one (C.bx (encMa true m)), S.agg (encProg false p), S.one (C.int (t : Int))] = some (S.tup [], [S.one (C.bx (encMa true (execM p m t))), S.one C.unk, S.one C.unk]) := by
  obtain ⟨ht, hc, n, hn, hpc, hth, hin, hmo, hml, hcl, h3, he⟩ := exOk_get h
  obtain ⟨pc, codes⟩ := p
  obtain ⟨cells, ths⟩ := m
  simp only at ht hc hn hpc hth hin hmo hml hcl h3 he
  rw [he]
  obtain ⟨⟨hp1, hp2⟩, hv4, hvv, hbo, hbc⟩ := thOk_iff.1 hth
  have hW : W ((n : Int) + 1) = (n : Int) + 1 := W_eq (by omega) (by omega)
  generalize hi : codes[t][n] = i at *
  simp only [instrOk, Bool.and_eq_true] at hin
  obtain ⟨⟨⟨⟨⟨⟨⟨g1, g2⟩, g3⟩, g4⟩, g5⟩, g6⟩, g7⟩, g8⟩ := hin
  simp only [inB, Bool.and_eq_true, decide_eq_true_eq] at g1 g2 g3 g4 g5
  obtain ⟨ir, hr⟩ := Int.eq_ofNat_of_zero_le g4.1
  obtain ⟨is, hs⟩ := Int.eq_ofNat_of_zero_le g5.1
  have hir : ir < ths[t].vals.length := by omega
  have his : is < ths[t].vals.length := by omega
  have hvr := hvv _ (List.getElem_mem hir)
  have hvs := hvv _ (List.getElem_mem his)
  simp only [isV, inB, Bool.and_eq_true, decide_eq_true_eq] at hvr hvs
  have hA : W (ths[t].vals[ir] + ths[t].vals[is]) = ths[t].vals[ir] + ths[t].vals[is] := W_eq (by omega) (by omega)
  have hS : W (ths[t].vals[ir] - ths[t].vals[is]) = ths[t].vals[ir] - ths[t].vals[is] := W_eq (by omega) (by omega)
  have hL : ths[t].buf.length ≤ 3 := by
    simp only [bufOk, Bool.and_eq_true, decide_eq_true_eq] at hbo; exact hbo.1
  have hLim : (ths[t].buf.length + 1) * 16 ≤ LIM := by unfold LIM; omega
  have hcl16 : cells.length ≤ 16 := by
    simp only [memOk, inB, Bool.and_eq_true, decide_eq_true_eq] at hmo; omega
  rw [miMachine_execute]
  simp [-List.map_set, ht, hc, hn, hpc, hi, hW, hr, hs, hir, his, md_pc, md_val, md_push, FiClamp_at, hA, hS, hLim]
  have hcases : i.op = 0 ∨ i.op = 1 ∨ i.op = 8 ∨ i.op = 4 ∨ i.op = 6 ∨ i.op = 2 ∨ i.op = 3 ∨ i.op = 5 ∨ i.op = 7 := by omega
  have hn2 : i.op = 2 ∨ i.op = 3 ∨ i.op = 5 ∨ i.op = 7 → 0 ≤ i.n ∧ i.n < cells.length := by
    intro ho
    have : inB i.n 0 (pc - 1) = true := by
      rcases ho with e | e | e | e <;> simpa [useN, e] using g8
    simp only [inB, Bool.and_eq_true, decide_eq_true_eq] at this
    omega
  rcases hcases with e | e | e | e | e | e | e | e | e
  · simp [execI, e, hr, hpc]
  · simp [execI, e, hr, hs, hir, his, hpc]
  · simp [execI, e, hr, hs, hir, his, hpc]
  · simp [execI, e, hr, hs, hir, his, hpc]
  · simp [execI, e, hr, hs, hir, his, hpc]
    cases (ths[t].vals[ir] == 0) <;> simp
  · obtain ⟨k1, k2⟩ := hn2 (by omega)
    simp [execI, e, hr, hs, hir, his, hpc, C.freeze, FiReadThrough_at none ths[t].buf cells i.n ⟨by omega, hmo, hbo, k1, k2⟩]
  · simp [execI, e, hr, hs, hir, his, hpc]
  · obtain ⟨k1, k2⟩ := hn2 (by omega)
    obtain ⟨k, hk⟩ := Int.eq_ofNat_of_zero_le k1
    have hk' : k < cells.length := by omega
    simp [-List.map_set, execI, e, hr, hs, hir, his, hpc, hk, hk', md_int]
    cases (cells[k] == ths[t].vals[ir]) <;> simp
  · obtain ⟨k1, k2⟩ := hn2 (by omega)
    obtain ⟨k, hk⟩ := Int.eq_ofNat_of_zero_le k1
    have hk' : k < cells.length := by omega
    simp [-List.map_set, execI, e, hr, hs, hir, his, hpc, hk, hk', md_int]
end Go.Proofs.Gh.Gm
set_option linter.unusedVariables false
set_option linter.unusedSimpArgs false
set_option maxRecDepth 100000
set_option maxHeartbeats 2000000
namespace Go.Proofs.Gh.Gm
def tys_m5 : List (Nat × TI) := [(0, ⟨false, 0, [], [], .tuple [], false, none⟩),
  (3, ⟨false, 8, [.int .i64], [.int 0], .scalar, false, none⟩),
  (23, ⟨false, 24, [.sl 1], [.sl true (some true) 1 []], .slice 3, false, none⟩),
  (71, ⟨true, 24, [.sl 1], [.sl true (some true) 1 []], .struct [(0, 1, false)], false, none⟩),
  (72, ⟨false, 24, [.sl 3], [.sl true (some true) 3 []], .slice 84, false, none⟩),
  (74, ⟨true, 48, [.sl 1, .sl 3], [.sl true (some true) 1 [], .sl true (some true) 3 []], .struct [(0, 1, true), (1, 1, false)], false, none⟩),
  (82, ⟨false, 24, [.sl 2], [.sl true (some true) 2 []], .slice 144, false, none⟩),
  (84, ⟨true, 56, [.int .i64, .sl 1, .sl 2], [.int 0, .sl true (some true) 1 [], .sl true (some true) 2 []], .struct [(0, 1, false), (1, 1, false), (2, 1, false)], false, none⟩),
  (144, ⟨true, 16, [.int .i64, .int .i64], [.int 0, .int 0], .struct [(0, 1, false), (1, 1, false)], true, none⟩),
  (198, ⟨false, 8, [.other], [.v (Value.pointer none)], .scalar, false, none⟩),
  (199, ⟨false, 8, [.other], [.v (Value.pointer none)], .scalar, false, none⟩)]
theorem tys_m5_eq : tys_m5.map (fun x => tiOf Go.Proofs.Try.prog x.1 x.2.cks) = tys_m5.map fun x => some x.2 := by kernel_rfl
def drainM (m : Machine) (t : Nat) : Machine :=
  match m.ths[t]? with
  | some th => match th.buf with
    | s :: b => ⟨m.cells.set s.a.toNat s.v, m.ths.set t { th with buf := b }⟩
    | [] => m
  | none => m
def drOk (m : Machine) (t : Nat) : Prop := ∃ th s b, m.ths[t]? = some th ∧ th.buf = s :: b ∧ 0 ≤ s.a ∧ s.a < m.cells.length
theorem md_buf {l : List Thread} {t : Nat} (h : t < l.length) (b : List Slot) : md (l.map (encTh true)) t 2 (.sl true none 2 (b.map encSlot)) = (l.set t { l[t] with buf := b }).map (encTh true) := by
  apply List.ext_getElem?
  intro k
  simp only [md, List.getElem?_modify, List.getElem?_map, List.getElem?_set]
  by_cases e : t = k
  · subst e; simp [h]
  · simp [e]
/-! iMachine_drain: (*loop.example/g00712/impl.Machine).drain -/
noncomputable def QiMachine_drain : Fx := ⟨Go.Proofs.Try.f160, [.io, .ro], false, mkEnv tys_m5 [(187, SslicesDelete_iSlot)] [], fun id => bif Nat.beq id 1 then .sq [0, 1, 2, 3, 4, 5, 6, 7, 8, 9, 10, 11, 12, 13, 14, 15, 16, 17, 18, 19, 20] .stop else .stop, []⟩
noncomputable def FiMachine_drain : List S → Option Res := veil QiMachine_drain.run
noncomputable def SiMachine_drain : Spec := ⟨[.io, .ro], false, FiMachine_drain⟩
theorem miMachine_drain (x1 : List (List C)) (x2 : List (List C)) (x3 : Int) : FiMachine_drain [.one (.bx [.sl true none 1 x1, .sl true none 3 x2]), .one (.int x3)] = ix x3 x2 ((x2[Int.toNat x3]?).bind fun w1 => tOwn [.sl 2] (List.drop 2 w1) ((x2[Int.toNat x3]?).bind fun w2 => (w2[2]?).bind fun c1 => (C.asOwn 2 c1).bind fun q1 => ix 0 q1.2 ((x2[Int.toNat x3]?).bind fun w3 => (w3[2]?).bind fun c2 => (C.asOwn 2 c2).bind fun q2 => (q2.2[0]?).bind fun w4 => tOwn [.int .i64] w4 fun n1 => (x2[Int.toNat x3]?).bind fun w5 => tOwn [.sl 2] (List.drop 2 w5) ((x2[Int.toNat x3]?).bind fun w6 => (w6[2]?).bind fun c3 => (C.asOwn 2 c3).bind fun q3 => ix 0 q3.2 ((x2[Int.toNat x3]?).bind fun w7 => (w7[2]?).bind fun c4 => (C.asOwn 2 c4).bind fun q4 => (q4.2[0]?).bind fun w8 => tOwn [.int .i64] (List.drop 1 w8) fun n2 => ix n1 x1 (oc (.int .i64) x1 (Int.toNat n1) 0 ((let e1 : List (List C) := md x1 (Int.toNat n1) 0 (.int n2); (x2[Int.toNat x3]?).bind fun w9 => tOwn [.sl 2] (List.drop 2 w9) ((x2[Int.toNat x3]?).bind fun w10 => (w10[2]?).bind fun c5 => own3 c5 fun o1 m1 l1 => cV false [.sl 2] (FslicesDelete_iSlot [.one (.sl true o1 m1 l1), .one (.int 0), .one (.int 1)]) fun o2 l2 => ((md x2 (Int.toNat x3) 2 .unk)[Int.toNat x3]?).bind fun w11 => (w11[2]?).bind fun c6 => (let e2 : List (List C) := md (md x2 (Int.toNat x3) 2 .unk) (Int.toNat x3) 2 (.sl true none 2 l2); fin false [.one (.bx [.sl true none 1 x1, .sl true none 3 x2]), .one (.int x3)] [] [.one (.bx [.sl true none 1 e1, .sl true none 3 e2]), .one .unk])))))))))) := Fx.eq (by kernel_rfl)
theorem okiMachine_drain : CalleeOk Go.Proofs.Try.prog 160 SiMachine_drain := Fx.ok (F := QiMachine_drain) follows (envTy_mk tys_m5_eq) (envSpec_of (specsOk_cons okslicesDelete_iSlot specsOk_nil)) Go.Proofs.Try.func160 (by kernel_rfl) (by kernel_rfl) (by rw [show subs QiMachine_drain.code = [] by kernel_rfl]; trivial) (by kernel_rfl) (by kernel_rfl) rfl
theorem FiMachine_drain_at (m : Machine) (t : Nat) (h : drOk m t) : FiMachine_drain [S.one (C.bx (encMa true m)), S.one (C.int (t : Int))] = some (S.tup [], [S.one (C.bx (encMa true (drainM m t))), S.one C.unk]) := by
  obtain ⟨th, s, b, h1, h2, h3, h4⟩ := h
  obtain ⟨cells, ths⟩ := m
  simp only at h1 h4
  obtain ⟨ht, rfl⟩ := List.getElem?_eq_some_iff.1 h1
  obtain ⟨k, hk⟩ := Int.eq_ofNat_of_zero_le h3
  have hk' : k < cells.length := by omega
  have h0 : ix 0 (encSlot s :: b.map encSlot) = fun k => k := by funext k; simp [ix]
  have hd := FslicesDelete_iSlot_at slot_plain none s b
  rw [miMachine_drain]
  simp [-List.map_set, ht, h2, hk, hk', md_int, md_buf, drainM, h0, hd]
def drainAllM (m : Machine) (t : Nat) : Machine :=
  match m.ths[t]? with
  | some th => ⟨th.buf.foldl (fun c s => c.set s.a.toNat s.v) m.cells, m.ths.set t { th with buf := [] }⟩
  | none => m
def drAllOk (m : Machine) (t : Nat) : Prop := ∃ th, m.ths[t]? = some th ∧ th.buf.length ≤ 1048576 ∧ ∀ s ∈ th.buf, 0 ≤ s.a ∧ s.a < m.cells.length
/-! iMachine_drainAll: (*loop.example/g00712/impl.Machine).drainAll -/
@[reducible] def hiMachine_drainAll_0 : Sh := ⟨[.one (.o (.pl 0 0 [])), .one (.o (.i .i64))], [(false, [.o (.sl true 1), .o (.sl true 3)])]⟩
@[reducible] def xiMachine_drainAll_0 : List (Ex × Sh) := [(.exit 0, ⟨[], [(false, [.o (.sl true 1), .o (.sl true 3)])]⟩)]
noncomputable def RiMachine_drainAll_0 : KC xiMachine_drainAll_0 (hiMachine_drainAll_0.K → hiMachine_drainAll_0.K) := fun k0 nx v1 v2 v3 v4 v5 => ix v1 v5 ((v5[Int.toNat v1]?).bind fun w1 => tOwn [.sl 2] (List.drop 2 w1) ((v5[Int.toNat v1]?).bind fun w2 => (w2[2]?).bind fun c1 => (C.asOwn 2 c1).bind fun q1 => bif decide ((q1.2.length : Int) > 0) then cOT [.bx [.sl 1, .sl 3]] [] (FiMachine_drain [.one (.bx [.sl true v2 1 v3, .sl true v4 3 v5]), .one (.int v1)]) fun o1 l1 o2 l2 => nx v1 o1 l1 o2 l2 else k0 v2 v3 v4 v5))
noncomputable def LiMachine_drainAll_0 : Lp := ⟨0, [0, 1], [], 1, 17, hiMachine_drainAll_0, xiMachine_drainAll_0, RiMachine_drainAll_0⟩
noncomputable def QiMachine_drainAll : Fx := ⟨Go.Proofs.Try.f162, [.io, .ro], false, mkEnv tys_m5 [(160, SiMachine_drain)] [(160, [.bx [.sl 1, .sl 3]])], fun _ => .stop, [LiMachine_drainAll_0]⟩
noncomputable def FiMachine_drainAll : List S → Option Res := veil QiMachine_drainAll.run
noncomputable def SiMachine_drainAll : Spec := ⟨[.io, .ro], false, FiMachine_drainAll⟩
theorem miMachine_drainAll (x1 : List (List C)) (x2 : List (List C)) (x3 : Int) : FiMachine_drainAll [.one (.bx [.sl true none 1 x1, .sl true none 3 x2]), .one (.int x3)] = iterC (RiMachine_drainAll_0 (fun y1 y2 y3 y4 => fin false [.one (.bx [.sl true none 1 x1, .sl true none 3 x2]), .one (.int x3)] [] [.one (.bx [.sl true y1 1 y2, .sl true y3 3 y4]), .one .unk])) FUEL x3 none x1 none x2 := Fx.eq (by kernel_rfl)
theorem stiMachine_drainAll_0 : LiMachine_drainAll_0.Step QiMachine_drainAll.E QiMachine_drainAll.dr QiMachine_drainAll.lp ((findLoop 0 QiMachine_drainAll.code).getD .skip) := fun k nx v => by kernel_rfl
theorem okiMachine_drainAll : CalleeOk Go.Proofs.Try.prog 162 SiMachine_drainAll := Fx.ok (F := QiMachine_drainAll) follows (envTy_mk tys_m5_eq) (envSpec_of (specsOk_cons okiMachine_drain specsOk_nil)) Go.Proofs.Try.func162 (by kernel_rfl) (by kernel_rfl) (by
  rw [show subs QiMachine_drainAll.code = [(findLoop 0 QiMachine_drainAll.code).getD .skip] by kernel_rfl]
  exact ⟨stepAt_some (by kernel_rfl) stiMachine_drainAll_0, trivial⟩) (by kernel_rfl) (by kernel_rfl) rfl
theorem FiMachine_drainAll_at (m : Machine) (t : Nat) (h : drAllOk m t) : FiMachine_drainAll [S.one (C.bx (encMa true m)), S.one (C.int (t : Int))] = some (S.tup [], [S.one (C.bx (encMa true (drainAllM m t))), S.one C.unk]) := by
  obtain ⟨th, h1, h2, h3⟩ := h
  obtain ⟨cells, ths⟩ := m
  simp only at h1 h3
  obtain ⟨ht, rfl⟩ := List.getElem?_eq_some_iff.1 h1
  rw [miMachine_drainAll]
  have hfold := iter_fold (h := hiMachine_drainAll_0) (fb := RiMachine_drainAll_0 (fun y1 y2 y3 y4 => fin false [.one (.bx [.sl true none 1 (cells.map encInt), .sl true none 3 (ths.map (encTh true))]), .one (.int (t : Int))] [] [.one (.bx [.sl true y1 1 y2, .sl true y3 3 y4]), .one .unk])) ths[t].buf
    (fun i (c : List Int) f => f (t : Int) none (c.map encInt) none ((ths.set t { ths[t] with buf := ths[t].buf.drop i }).map (encTh true))) (fun c s => c.set s.a.toNat s.v)
    (fun c => some (.tup [], [.one (.bx (encMa true ⟨c, ths.set t { ths[t] with buf := [] }⟩)), .one .unk])) (fun _ c => c.length = cells.length) (by omega) ?_ ?_ cells rfl
  · simp only [List.drop_zero] at hfold
    rw [show ths.set t { ths[t] with buf := ths[t].buf } = ths from List.set_getElem_self ht] at hfold
    refine hfold.trans ?_
    simp [drainAllM, ht]
  · intro nx c hc
    simp [-List.map_set, RiMachine_drainAll_0, ht, List.drop_length]
  · intro nx i c hi hc hW
    refine ⟨by simpa using hc, ?_⟩
    have hd : ths[t].buf.drop i = ths[t].buf[i] :: ths[t].buf.drop (i + 1) := (List.getElem_cons_drop hi).symm
    have hs := h3 _ (List.getElem_mem hi)
    have hdr := FiMachine_drain_at ⟨c, ths.set t { ths[t] with buf := ths[t].buf.drop i }⟩ t ⟨{ ths[t] with buf := ths[t].buf.drop i }, ths[t].buf[i], ths[t].buf.drop (i + 1), by simp [ht], hd, hs.1, by simp only; omega⟩
    have he : drainM ⟨c, ths.set t { ths[t] with buf := ths[t].buf.drop i }⟩ t = ⟨c.set ths[t].buf[i].a.toNat ths[t].buf[i].v, ths.set t { ths[t] with buf := ths[t].buf.drop (i + 1) }⟩ := by
      rw [hd]
      simp only [drainM, List.getElem?_set_self ht, List.set_set]
    rw [he] at hdr
    simp only [encMa] at hdr
    have hlen : 0 < ths[t].buf.length - i := by omega
    simp [-List.map_set, RiMachine_drainAll_0, ht, hdr, hlen]
end Go.Proofs.Gh.Gm
