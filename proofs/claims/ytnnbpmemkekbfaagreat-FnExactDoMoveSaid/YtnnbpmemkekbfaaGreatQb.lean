/- The program's functions by the ghost evaluator: what each computes, and that it does. -/
import Derived.Test.YtnnbpmemkekbfaaGreatGh47
import Derived.Test.YtnnbpmemkekbfaaGreatGh48
import Derived.Test.YtnnbpmemkekbfaaGreatGh45
import Derived.Test.YtnnbpmemkekbfaaGreatProg
import Derived.KernelRfl
import Derived.Test.YtnnbpmemkekbfaaGreatQa
set_option linter.unusedVariables false
set_option linter.unusedSimpArgs false
set_option maxRecDepth 100000
set_option maxHeartbeats 2000000
namespace Go.Proofs.Gh.Gm
def tys_m3 : List (Nat × TI) := [(3, ⟨false, 8, [.int .i64], [.int 0], .scalar, false⟩),
  (4, ⟨false, 1, [.bool], [.bool false], .scalar, false⟩),
  (25, ⟨false, 24, [.sl 1], [.sl true (some true) 1 []], .slice 3, false⟩),
  (35, ⟨true, 24, [.sl 1], [.sl true (some true) 1 []], .struct [(0, 1, false)], false⟩),
  (36, ⟨false, 24, [.sl 3], [.sl true (some true) 3 []], .slice 75, false⟩),
  (38, ⟨true, 48, [.sl 1, .sl 3], [.sl true (some true) 1 [], .sl true (some true) 3 []], .struct [(0, 1, true), (1, 1, false)], false⟩),
  (73, ⟨false, 24, [.sl 2], [.sl true (some true) 2 []], .slice 90, false⟩),
  (75, ⟨true, 56, [.int .i64, .sl 1, .sl 2], [.int 0, .sl true (some true) 1 [], .sl true (some true) 2 []], .struct [(0, 1, false), (1, 1, false), (2, 1, false)], false⟩),
  (90, ⟨true, 16, [.int .i64, .int .i64], [.int 0, .int 0], .struct [(0, 1, false), (1, 1, false)], true⟩)]
theorem tys_m3_eq : tys_m3.map (fun x => tiOf Go.Proofs.Tryz.prog x.1 x.2.cks) = tys_m3.map fun x => some x.2 := by kernel_rfl
abbrev rho (F T E : Nat) : Go.Shelf.Ren := ⟨fun _ => F, fun t => if t = 22 then T else if t = 23 then E else t, fun x => x⟩
theorem layslicesClone_int : SlLaysE0.n41 Go.Proofs.Tryz.prog (rho 59 25 3) := ⟨follows, ⟨Go.Proofs.Tryz.f59.name, by kernel_rfl, by kernel_rfl⟩, Go.Proofs.Tryz.underlying4, Go.Proofs.Tryz.isAgg4, Go.Proofs.Tryz.sizeOf4, Go.Proofs.Tryz.zeroValue4, Go.Proofs.Tryz.underlying25, Go.Proofs.Tryz.isAgg25, Go.Proofs.Tryz.sizeOf25, Go.Proofs.Tryz.zeroValue25⟩
noncomputable def FslicesClone_int : List S → Option Res := veil (cloneRun 1 8)
noncomputable def SslicesClone_int : Spec := ⟨[.ro], false, FslicesClone_int⟩
theorem okslicesClone_int : CalleeOk Go.Proofs.Tryz.prog 59 SslicesClone_int := ⟨by
  have h := clone_ok layslicesClone_int (Option.get (Go.Proofs.Tryz.prog.info? 3) (by kernel_rfl)) (Option.get (Option.get (Go.Proofs.Tryz.prog.info? 3) (by kernel_rfl)).zero (by kernel_rfl)) 1 8 (Option.some_get _).symm (Option.some_get _).symm (by kernel_rfl) (by kernel_rfl) (by kernel_rfl) (by decide) Go.Proofs.Tryz.sizeOf3
  unfold SslicesClone_int FslicesClone_int
  rw [veil_eq]
  exact h, _, Go.Proofs.Tryz.func59, by kernel_rfl, by kernel_rfl⟩
theorem FslicesClone_int_at {α : Type} {f : α → List C} (hf : ∀ x, (f x).length = 1 ∧ ∀ c ∈ f x, ∃ v : Value, c = .v v) (nl : Option Bool) (l : List α) (h : l.length * 8 ≤ 140737488355328) : FslicesClone_int [.one (.sl false nl 1 (l.map f))] = some (.one (.sl true nl 1 (l.map f)), [.one .unk]) := (congrFun (veil_eq _) _).trans (clone_at (fun row hr => by obtain ⟨x, _, rfl⟩ := List.mem_map.1 hr; exact hf x) (by simpa using h))
theorem layslicesClone_iSlot : SlLaysE0.n41 Go.Proofs.Tryz.prog (rho 60 73 90) := ⟨follows, ⟨Go.Proofs.Tryz.f60.name, by kernel_rfl, by kernel_rfl⟩, Go.Proofs.Tryz.underlying4, Go.Proofs.Tryz.isAgg4, Go.Proofs.Tryz.sizeOf4, Go.Proofs.Tryz.zeroValue4, Go.Proofs.Tryz.underlying73, Go.Proofs.Tryz.isAgg73, Go.Proofs.Tryz.sizeOf73, Go.Proofs.Tryz.zeroValue73⟩
noncomputable def FslicesClone_iSlot : List S → Option Res := veil (cloneRun 2 16)
noncomputable def SslicesClone_iSlot : Spec := ⟨[.ro], false, FslicesClone_iSlot⟩
theorem okslicesClone_iSlot : CalleeOk Go.Proofs.Tryz.prog 60 SslicesClone_iSlot := ⟨by
  have h := clone_ok layslicesClone_iSlot (Option.get (Go.Proofs.Tryz.prog.info? 90) (by kernel_rfl)) (Option.get (Option.get (Go.Proofs.Tryz.prog.info? 90) (by kernel_rfl)).zero (by kernel_rfl)) 2 16 (Option.some_get _).symm (Option.some_get _).symm (by kernel_rfl) (by kernel_rfl) (by kernel_rfl) (by decide) Go.Proofs.Tryz.sizeOf90
  unfold SslicesClone_iSlot FslicesClone_iSlot
  rw [veil_eq]
  exact h, _, Go.Proofs.Tryz.func60, by kernel_rfl, by kernel_rfl⟩
theorem FslicesClone_iSlot_at {α : Type} {f : α → List C} (hf : ∀ x, (f x).length = 2 ∧ ∀ c ∈ f x, ∃ v : Value, c = .v v) (nl : Option Bool) (l : List α) (h : l.length * 16 ≤ 140737488355328) : FslicesClone_iSlot [.one (.sl false nl 2 (l.map f))] = some (.one (.sl true nl 2 (l.map f)), [.one .unk]) := (congrFun (veil_eq _) _).trans (clone_at (fun row hr => by obtain ⟨x, _, rfl⟩ := List.mem_map.1 hr; exact hf x) (by simpa using h))
theorem layslicesDelete_iSlot : SlLaysE0.n45 Go.Proofs.Tryz.prog (rho 85 73 90) := ⟨follows, ⟨Go.Proofs.Tryz.f85.name, by kernel_rfl, by kernel_rfl⟩, Go.Proofs.Tryz.underlying0, Go.Proofs.Tryz.isAgg0, Go.Proofs.Tryz.sizeOf0, Go.Proofs.Tryz.zeroValue0, Go.Proofs.Tryz.underlying3, Go.Proofs.Tryz.isAgg3, Go.Proofs.Tryz.sizeOf3, Go.Proofs.Tryz.zeroValue3, Go.Proofs.Tryz.underlying4, Go.Proofs.Tryz.isAgg4, Go.Proofs.Tryz.sizeOf4, Go.Proofs.Tryz.zeroValue4, Go.Proofs.Tryz.underlying73, Go.Proofs.Tryz.isAgg73, Go.Proofs.Tryz.sizeOf73, Go.Proofs.Tryz.zeroValue73⟩
noncomputable def FslicesDelete_iSlot : List S → Option Res := veil (delRun 2)
noncomputable def SslicesDelete_iSlot : Spec := ⟨[.tk, .ro, .ro], false, FslicesDelete_iSlot⟩
theorem okslicesDelete_iSlot : CalleeOk Go.Proofs.Tryz.prog 85 SslicesDelete_iSlot := ⟨by
  have h := delete_ok layslicesDelete_iSlot (Option.get (Go.Proofs.Tryz.prog.info? 90) (by kernel_rfl)) _ 2 (Option.some_get _).symm (by kernel_rfl) (by rfl) (by decide) Go.Proofs.Tryz.zeroValue90 Go.Proofs.Tryz.sizeOf90
  unfold SslicesDelete_iSlot FslicesDelete_iSlot
  rw [veil_eq]
  exact h, _, Go.Proofs.Tryz.func85, by kernel_rfl, by kernel_rfl⟩
theorem FslicesDelete_iSlot_at {α : Type} {f : α → List C} (hf : ∀ x, (f x).length = 2 ∧ ∀ c ∈ f x, ∃ v : Value, c = .v v) (nl : Option Bool) (x : α) (l : List α) : FslicesDelete_iSlot [.one (.sl true nl 2 (f x :: l.map f)), .one (.int 0), .one (.int 1)] = some (.one (.sl true nl 2 (l.map f)), [.one .unk, .one .unk, .one .unk]) := (congrFun (veil_eq _) _).trans (del_at (plain_map hf (x :: l)))
theorem one_plain (x : Int) : (encInt x).length = 1 ∧ ∀ c ∈ encInt x, ∃ v : Value, c = .v v := ⟨rfl, fun c hc => ⟨_, by simpa using hc⟩⟩
theorem slot_plain (s : Slot) : (encSlot s).length = 2 ∧ ∀ c ∈ encSlot s, ∃ v : Value, c = .v v := ⟨rfl, fun c hc => by
  rcases (by simpa using hc : c = C.int s.a ∨ c = C.int s.v) with h | h <;> exact ⟨_, h⟩⟩
theorem foldl_snoc {α : Type} (l acc : List α) : l.foldl (fun a x => a ++ [x]) acc = acc ++ l := by
  induction l generalizing acc with
  | nil => simp
  | cons x l ih => simp [ih]
def clamp (n : Int) : Int := if (if -1000000 < n then n else -1000000) < 1000000 then if -1000000 < n then n else -1000000 else 1000000
/-- What a thread reads at an address. -/
def readT (b : List Slot) (cells : List Int) (a : Int) : Int := match b.reverse.find? fun s => s.a == a with
  | some s => s.v
  | none => cells[a.toNat]?.getD 0
theorem iter_down {h : Sh} {fb : h.K → h.K} (n : Nat) (ev : Int → h.K → Option Res) (g : Nat → Option Res) (hn : n < 4611686018427387904) (h0 : ∀ nx, ev (-1) (fb nx) = g 0)
    (h1 : ∀ nx (k : Nat), k < n → W ((k : Int) - 1) = (k : Int) - 1 → (ev (k : Int) (fb nx) = ev ((k : Int) - 1) nx ∧ g (k + 1) = g k) ∨ ev (k : Int) (fb nx) = g (k + 1)) : ev ((n : Int) - 1) (iterC fb FUEL) = g n := by
  have key : ∀ (j k : Nat), k < j → k ≤ n → ev ((k : Int) - 1) (iterC fb j) = g k := by
    intro j
    induction j with
    | zero => intro k h1 h2; omega
    | succ j ih =>
      intro k hj hk
      rw [iterC_succ]
      cases k with
      | zero => exact h0 _
      | succ k =>
        have e : (((k + 1 : Nat) : Int) - 1) = (k : Int) := by omega
        rw [e]
        rcases h1 (iterC fb j) k (by omega) (W_eq (by omega) (by omega)) with ⟨h2, h3⟩ | h2
        · rw [h2, h3]; exact ih k (by omega) (by omega)
        · exact h2
  exact key FUEL n (by rw [FUEL_eq]; omega) (Nat.le_refl _)
/-! iMem_own: (loop.example/g00712/impl.Mem).own -/
noncomputable def QiMem_own : Fx := ⟨Go.Proofs.Tryz.f58, [.ro], false, mkEnv tys_m3 [(59, SslicesClone_int)] [], fun _ => .stop, []⟩
noncomputable def FiMem_own : List S → Option Res := veil QiMem_own.run
noncomputable def SiMem_own : Spec := ⟨[.ro], false, FiMem_own⟩
theorem miMem_own (x1 : List (List C)) : FiMem_own [.agg [.sl false none 1 x1]] = cV false [.sl 1] (FslicesClone_int [.one (.sl false none 1 x1)]) fun o1 l1 => fr false 1 [.agg [.sl true none 1 l1]] := Fx.eq (by kernel_rfl)
theorem okiMem_own : CalleeOk Go.Proofs.Tryz.prog 58 SiMem_own := Fx.ok (F := QiMem_own) follows (envTy_mk tys_m3_eq) (envSpec_of (specsOk_cons okslicesClone_int specsOk_nil)) Go.Proofs.Tryz.func58 (by kernel_rfl) (by kernel_rfl) (by rw [show subs QiMem_own.code = [] by kernel_rfl]; trivial) (by kernel_rfl) (by kernel_rfl) rfl
theorem FiMem_own_at (l : List Int) (h : l.length ≤ 1048576) : FiMem_own [S.agg [C.sl false none 1 (l.map encInt)]] = some (S.agg [C.sl true none 1 (l.map encInt)], [S.one C.unk]) := by
  rw [miMem_own, FslicesClone_int_at one_plain _ _ (by omega)]
  simp
/-! iMachine_own: (loop.example/g00712/impl.Machine).own -/
@[reducible] def hiMachine_own_3 : Sh := ⟨[.one (.o (.pl 1 0 [])), .one (.o (.pl 4 0 [])), .one (.o (.sl false 3)), .one (.o (.i .i64)), .one (.o (.i .i64))], [(false, [.o (.sl false 1), .o (.sl false 3)]), (false, [.o (.sl true 1), .o (.sl true 3)]), (true, [.o .u]), (true, [.o .u]), (false, [.o (.sl true 1), .o (.sl true 3)])]⟩
@[reducible] def xiMachine_own_3 : List (Ex × Sh) := [(.exit 0, ⟨[.one (.o (.pl 1 0 [])), .one (.o (.pl 4 0 []))], [(false, [.o (.sl false 1), .o (.sl false 3)]), (false, [.o (.sl true 1), .o (.sl true 3)]), (true, [.o .u]), (true, [.o .u]), (false, [.o (.sl true 1), .o (.sl true 3)])]⟩)]
noncomputable def RiMachine_own_3 : KC xiMachine_own_3 (hiMachine_own_3.K → hiMachine_own_3.K) := fun k0 nx v1 v2 v3 v4 v5 v6 v7 v8 v9 v10 v11 v12 v13 v14 v15 v16 => bif decide (v4 < v3) then ix v4 v2 ((v2[Int.toNat v4]?).bind fun w1 => tRo [.int .i64, .sl 1, .sl 2] w1 fun n1 _ l2 _ l3 => cV false [.sl 1] (FslicesClone_int [.one (.sl false none 1 l2)]) fun o2 l4 => cV false [.sl 2] (FslicesClone_iSlot [.one (.sl false none 2 l3)]) fun o3 l5 => if (v16.length + 1) * 56 ≤ LIM then nx v1 v2 v3 (W (v4 + 1)) v5 v6 v7 v8 v9 v10 v11 v12 v13 v14 none (v16 ++ [[.int n1, .sl true none 1 l4, .sl true none 2 l5]]) else none) else k0 v5 v6 v7 v8 v9 v10 v11 v12 v13 v14 v15 v16
noncomputable def LiMachine_own_3 : Lp := ⟨3, [2, 3, 11, 12, 13], [2, 3], 5, 33, hiMachine_own_3, xiMachine_own_3, RiMachine_own_3⟩
noncomputable def QiMachine_own : Fx := ⟨Go.Proofs.Tryz.f29, [.ro], false, mkEnv tys_m3 [(58, SiMem_own), (59, SslicesClone_int), (60, SslicesClone_iSlot)] [], fun id => bif Nat.beq id 5 then .sq [0, 1, 2, 3, 4, 5, 7, 8, 6, 9, 10, 11, 12, 13, 14] .stop else .stop, [LiMachine_own_3]⟩
noncomputable def FiMachine_own : List S → Option Res := veil QiMachine_own.run
noncomputable def SiMachine_own : Spec := ⟨[.ro], false, FiMachine_own⟩
theorem miMachine_own (x1 : List (List C)) (x2 : List (List C)) : FiMachine_own [.agg [.sl false none 1 x1, .sl false none 3 x2]] = cV true [.sl 1] (FiMem_own [.agg [.sl false none 1 x1]]) fun o1 l1 => iterC (RiMachine_own_3 (fun y1 y2 y3 y4 y5 y6 y7 y8 y9 y10 y11 y12 => fr false 1 [.agg [.sl true none 1 y10, .sl true none 3 y12]])) FUEL none x2 (x2.length : Int) 0 none x1 none x2 (some true) [] (some true) [] none l1 none [] := Fx.eq (by kernel_rfl)
theorem stiMachine_own_3 : LiMachine_own_3.Step QiMachine_own.E QiMachine_own.dr QiMachine_own.lp ((findLoop 3 QiMachine_own.code).getD .skip) := fun k nx v => by kernel_rfl
theorem okiMachine_own : CalleeOk Go.Proofs.Tryz.prog 29 SiMachine_own := Fx.ok (F := QiMachine_own) follows (envTy_mk tys_m3_eq) (envSpec_of (specsOk_cons okiMem_own (specsOk_cons okslicesClone_int (specsOk_cons okslicesClone_iSlot specsOk_nil)))) Go.Proofs.Tryz.func29 (by kernel_rfl) (by kernel_rfl) (by
  rw [show subs QiMachine_own.code = [(findLoop 3 QiMachine_own.code).getD .skip] by kernel_rfl]
  exact ⟨stepAt_some (by kernel_rfl) stiMachine_own_3, trivial⟩) (by kernel_rfl) (by kernel_rfl) rfl
theorem FiMachine_own_at (m : Machine) (h : m.cells.length ≤ 1048576 ∧ bT m.ths) : FiMachine_own [S.agg (encMa false m)] = some (S.agg (encMa true m), [S.one C.unk]) := by
  obtain ⟨cells, ths⟩ := m
  obtain ⟨h1, h2, h3⟩ := h
  simp only at h1 h2 h3
  rw [miMachine_own, FiMem_own_at _ h1]
  simp only [cV, Option.bind_some, tOne, tOwn, tRes, id]
  refine (iter_fold (h := hiMachine_own_3) ths (fun i (a : List Thread) f => f none (ths.map (encTh false)) ((ths.map (encTh false)).length : Int) (i : Int) none (cells.map encInt) none (ths.map (encTh false)) (some true) [] (some true) [] none (cells.map encInt) none (a.map (encTh true))) (fun a t => a ++ [t]) (fun a => fr false 1 [.agg (encMa true ⟨cells, a⟩)]) (fun i a => a.length = i) (by omega) ?_ ?_ [] rfl).trans ?_
  · intro nx a ha; simp [RiMachine_own_3]
  · intro nx i a hi ha hW
    have ht := h3 _ (List.getElem_mem hi)
    refine ⟨by simp [ha], ?_⟩
    have hL : (a.length + 1) * 56 ≤ LIM := by unfold LIM; omega
    simp [RiMachine_own_3, hi, hW, FslicesClone_int_at one_plain _ _ (show ths[i].vals.length * 8 ≤ 140737488355328 by omega), FslicesClone_iSlot_at slot_plain _ _ (show ths[i].buf.length * 16 ≤ 140737488355328 by omega), hL]
  · rw [foldl_snoc]; simp
/-! iClamp: loop.example/g00712/impl.Clamp -/
noncomputable def QiClamp : Fx := ⟨Go.Proofs.Tryz.f86, [.ro], false, mkEnv tys_m3 [] [], fun _ => .stop, []⟩
noncomputable def FiClamp : List S → Option Res := veil QiClamp.run
noncomputable def SiClamp : Spec := ⟨[.ro], false, FiClamp⟩
theorem miClamp (x1 : Int) : FiClamp [.one (.int x1)] = fr false 1 [.one (.int (if (if x1 > (-1000000) then x1 else ((-1000000) : Int)) < 1000000 then (if x1 > (-1000000) then x1 else ((-1000000) : Int)) else (1000000 : Int)))] := Fx.eq (by kernel_rfl)
theorem okiClamp : CalleeOk Go.Proofs.Tryz.prog 86 SiClamp := Fx.ok (F := QiClamp) follows (envTy_mk tys_m3_eq) (envSpec_of (specsOk_nil)) Go.Proofs.Tryz.func86 (by kernel_rfl) (by kernel_rfl) (by rw [show subs QiClamp.code = [] by kernel_rfl]; trivial) (by kernel_rfl) (by kernel_rfl) rfl
theorem FiClamp_at (n : Int) : FiClamp [S.one (C.int n)] = some (S.one (C.int (clamp n)), [S.one C.unk]) := by
  rw [miClamp]
  simp [clamp]
/-! iMem_has: (loop.example/g00712/impl.Mem).has -/
noncomputable def QiMem_has : Fx := ⟨Go.Proofs.Tryz.f113, [.ro, .ro], false, mkEnv tys_m3 [(77, Siwithin)] [], fun _ => .stop, []⟩
noncomputable def FiMem_has : List S → Option Res := veil QiMem_has.run
noncomputable def SiMem_has : Spec := ⟨[.ro, .ro], false, FiMem_has⟩
theorem miMem_has (x1 : List (List C)) (x2 : Int) : FiMem_has [.agg [.sl false none 1 x1], .one (.int x2)] = cV false [.bool] (Fiwithin [.one (.int x2), .one (.int 0), .one (.int (W ((x1.length : Int) - 1)))]) fun b1 => fr false 2 [.one (.bool b1)] := Fx.eq (by kernel_rfl)
theorem okiMem_has : CalleeOk Go.Proofs.Tryz.prog 113 SiMem_has := Fx.ok (F := QiMem_has) follows (envTy_mk tys_m3_eq) (envSpec_of (specsOk_cons okiwithin specsOk_nil)) Go.Proofs.Tryz.func113 (by kernel_rfl) (by kernel_rfl) (by rw [show subs QiMem_has.code = [] by kernel_rfl]; trivial) (by kernel_rfl) (by kernel_rfl) rfl
theorem FiMem_has_at (l : List Int) (a : Int) (h : l.length ≤ 1048576) : FiMem_has [S.agg [C.sl false none 1 (l.map encInt)], S.one (C.int a)] = some (S.one (C.bool (inB a 0 ((l.length : Int) - 1))), [S.one C.unk, S.one C.unk]) := by
  have e : W ((l.length : Int) - 1) = (l.length : Int) - 1 := W_eq (by omega) (by omega)
  simp [miMem_has, Fiwithin_at, e]
/-! iPeek: loop.example/g00712/impl.Peek -/
noncomputable def QiPeek : Fx := ⟨Go.Proofs.Tryz.f100, [.ro, .ro], false, mkEnv tys_m3 [(113, SiMem_has), (94, SiMemOk)] [], fun _ => .stop, []⟩
noncomputable def FiPeek : List S → Option Res := veil QiPeek.run
noncomputable def SiPeek : Spec := ⟨[.ro, .ro], false, FiPeek⟩
theorem miPeek (x1 : List (List C)) (x2 : Int) : FiPeek [.agg [.sl false none 1 x1], .one (.int x2)] = cV false [.bool] (FiMemOk [.agg [.sl false none 1 x1]]) fun b1 => bif !b1 then fr false 2 [.one (.int 0)] else cV false [.bool] (FiMem_has [.agg [.sl false none 1 x1], .one (.int x2)]) fun b2 => bif !b2 then fr false 2 [.one (.int 0)] else ix x2 x1 ((x1[Int.toNat x2]?).bind fun w1 => tRo [.int .i64] w1 fun n1 => fr false 2 [.one (.int n1)]) := Fx.eq (by kernel_rfl)
theorem okiPeek : CalleeOk Go.Proofs.Tryz.prog 100 SiPeek := Fx.ok (F := QiPeek) follows (envTy_mk tys_m3_eq) (envSpec_of (specsOk_cons okiMem_has (specsOk_cons okiMemOk specsOk_nil))) Go.Proofs.Tryz.func100 (by kernel_rfl) (by kernel_rfl) (by rw [show subs QiPeek.code = [] by kernel_rfl]; trivial) (by kernel_rfl) (by kernel_rfl) rfl
theorem FiPeek_at (l : List Int) (a : Int) (h : l.length ≤ 1048576 ∧ memOk l = true ∧ 0 ≤ a ∧ a < l.length) : FiPeek [S.agg [C.sl false none 1 (l.map encInt)], S.one (C.int a)] = some (S.one (C.int (l[a.toNat]?.getD 0)), [S.one C.unk, S.one C.unk]) := by
  obtain ⟨h1, h2, h3, h4⟩ := h
  obtain ⟨n, rfl⟩ := Int.eq_ofNat_of_zero_le h3
  have hn : n < l.length := by omega
  have e : inB (n : Int) 0 ((l.length : Int) - 1) = true := by simp [inB]; omega
  simp [miPeek, FiMemOk_at _ (show smallL l by omega), FiMem_has_at _ _ h1, h2, e, hn]
/-! iReadThrough: loop.example/g00712/impl.ReadThrough -/
@[reducible] def hiReadThrough_4 : Sh := ⟨[.one (.o (.sl false 2)), .one (.o (.i .i64)), .one (.o (.pl 0 0 [])), .one (.o (.i .i64))], [(false, [.o (.sl false 1)])]⟩
@[reducible] def xiReadThrough_4 : List (Ex × Sh) := [(.ret, ⟨[.one (.o (.i .i64)), .one (.o (.pl 0 0 [])), .one (.o (.i .i64))], [(false, [.o (.sl false 1)])]⟩), (.exit 0, ⟨[.one (.o (.i .i64)), .one (.o (.pl 0 0 [])), .one (.o .u)], [(false, [.o (.sl false 1)])]⟩)]
noncomputable def RiReadThrough_4 : KC xiReadThrough_4 (hiReadThrough_4.K → hiReadThrough_4.K) := fun k0 k1 nx v1 v2 v3 v4 v5 v6 => bif decide (v4 ≥ 0) then ix v4 v2 ((v2[Int.toNat v4]?).bind fun w1 => tRo [.int .i64] w1 fun n1 => bif n1 == v3 then ix v4 v2 ((v2[Int.toNat v4]?).bind fun w2 => tRo [.int .i64] (List.drop 1 w2) fun n2 => k0 v3 n2 v5 v6) else nx v1 v2 v3 (W (v4 - 1)) v5 v6) else k1 v3 v5 v6
noncomputable def LiReadThrough_4 : Lp := ⟨4, [0, 2, 4, 7], [2, 4, 6], 1, 38, hiReadThrough_4, xiReadThrough_4, RiReadThrough_4⟩
noncomputable def QiReadThrough : Fx := ⟨Go.Proofs.Tryz.f87, [.ro, .ro, .ro], false, mkEnv tys_m3 [(100, SiPeek), (94, SiMemOk), (96, SiBufOk)] [], fun _ => .stop, [LiReadThrough_4]⟩
noncomputable def FiReadThrough : List S → Option Res := veil QiReadThrough.run
noncomputable def SiReadThrough : Spec := ⟨[.ro, .ro, .ro], false, FiReadThrough⟩
theorem miReadThrough (x1 : Option Bool) (x2 : List (List C)) (x3 : List (List C)) (x4 : Int) : FiReadThrough [.one (.sl false x1 2 x2), .agg [.sl false none 1 x3], .one (.int x4)] = cV false [.bool] (FiBufOk [.one (.sl false x1 2 x2)]) fun b1 => bif !b1 then fr false 3 [.one (.int 0)] else cV false [.bool] (FiMemOk [.agg [.sl false none 1 x3]]) fun b2 => bif !b2 then fr false 3 [.one (.int 0)] else iterC (RiReadThrough_4 (fun y1 y2 y3 y4 => fr false 3 [.one (.int y2)]) (fun y5 y6 y7 => cV false [.int .i64] (FiPeek [.agg [.sl false none 1 y7], .one (.int y5)]) fun n1 => fr false 3 [.one (.int n1)])) FUEL x1 x2 x4 (W ((x2.length : Int) - 1)) none x3 := Fx.eq (by kernel_rfl)
theorem stiReadThrough_4 : LiReadThrough_4.Step QiReadThrough.E QiReadThrough.dr QiReadThrough.lp ((findLoop 4 QiReadThrough.code).getD .skip) := fun k nx v => by kernel_rfl
theorem okiReadThrough : CalleeOk Go.Proofs.Tryz.prog 87 SiReadThrough := Fx.ok (F := QiReadThrough) follows (envTy_mk tys_m3_eq) (envSpec_of (specsOk_cons okiPeek (specsOk_cons okiMemOk (specsOk_cons okiBufOk specsOk_nil)))) Go.Proofs.Tryz.func87 (by kernel_rfl) (by kernel_rfl) (by
  rw [show subs QiReadThrough.code = [(findLoop 4 QiReadThrough.code).getD .skip] by kernel_rfl]
  exact ⟨stepAt_some (by kernel_rfl) stiReadThrough_4, trivial⟩) (by kernel_rfl) (by kernel_rfl) rfl
theorem FiReadThrough_at (nl : Option Bool) (b : List Slot) (l : List Int) (a : Int) (h : l.length ≤ 1048576 ∧ memOk l = true ∧ bufOk b = true ∧ 0 ≤ a ∧ a < l.length) : FiReadThrough [S.one (C.sl false nl 2 (b.map encSlot)), S.agg [C.sl false none 1 (l.map encInt)], S.one (C.int a)] = some (S.one (C.int (readT b l a)), [S.one C.unk, S.one C.unk, S.one C.unk]) := by
  obtain ⟨h1, h2, h3, h4, h5⟩ := h
  have hb : b.length ≤ 3 := by
    simp only [bufOk, Bool.and_eq_true, decide_eq_true_eq] at h3; exact h3.1
  have hw : W (((b.map encSlot).length : Int) - 1) = (b.length : Int) - 1 := by rw [List.length_map]; exact W_eq (by omega) (by omega)
  rw [miReadThrough, FiBufOk_at _ _ (show smallL b by omega), FiMemOk_at _ (show smallL l by omega), h2, h3, hw]
  simp only [cV, Option.bind_some, tOne, tOwn, tRes, id]
  refine (iter_down (h := hiReadThrough_4) b.length (fun i f => f nl (b.map encSlot) a i none (l.map encInt)) (fun k => some (.one (.int (readT (b.take k) l a)), [.one .unk, .one .unk, .one .unk])) (by omega) ?_ ?_).trans ?_
  · intro nx; simp [RiReadThrough_4, readT, FiPeek_at _ _ ⟨h1, h2, h4, h5⟩]
  · intro nx k hk hW
    have hr : (b.take (k + 1)).reverse = b[k] :: (b.take k).reverse := by
      rw [List.take_add_one, List.getElem?_eq_getElem hk]; simp
    by_cases e : b[k].a = a
    · right
      simp [RiReadThrough_4, readT, hr, hk, e]
    · left
      have e' : (b[k].a == a) = false := by simpa using e
      refine ⟨by simp [RiReadThrough_4, hk, e', hW], by simp [readT, hr, e']⟩
  · simp
end Go.Proofs.Gh.Gm
set_option linter.unusedVariables false
set_option linter.unusedSimpArgs false
set_option maxRecDepth 100000
set_option maxHeartbeats 2000000
namespace Go.Proofs.Gh.Gm
def tys_m4 : List (Nat × TI) := [(3, ⟨false, 8, [.int .i64], [.int 0], .scalar, false⟩),
  (4, ⟨false, 1, [.bool], [.bool false], .scalar, false⟩),
  (25, ⟨false, 24, [.sl 1], [.sl true (some true) 1 []], .slice 3, false⟩),
  (35, ⟨true, 24, [.sl 1], [.sl true (some true) 1 []], .struct [(0, 1, false)], false⟩),
  (36, ⟨false, 24, [.sl 3], [.sl true (some true) 3 []], .slice 75, false⟩),
  (38, ⟨true, 48, [.sl 1, .sl 3], [.sl true (some true) 1 [], .sl true (some true) 3 []], .struct [(0, 1, true), (1, 1, false)], false⟩),
  (41, ⟨false, 24, [.sl 1], [.sl true (some true) 1 []], .slice 76, false⟩),
  (43, ⟨true, 32, [.int .i64, .sl 1], [.int 0, .sl true (some true) 1 []], .struct [(0, 1, false), (1, 1, false)], false⟩),
  (73, ⟨false, 24, [.sl 2], [.sl true (some true) 2 []], .slice 90, false⟩),
  (75, ⟨true, 56, [.int .i64, .sl 1, .sl 2], [.int 0, .sl true (some true) 1 [], .sl true (some true) 2 []], .struct [(0, 1, false), (1, 1, false), (2, 1, false)], false⟩),
  (76, ⟨false, 24, [.sl 4], [.sl true (some true) 4 []], .slice 92, false⟩),
  (90, ⟨true, 16, [.int .i64, .int .i64], [.int 0, .int 0], .struct [(0, 1, false), (1, 1, false)], true⟩),
  (92, ⟨true, 32, [.int .i64, .int .i64, .int .i64, .int .i64], [.int 0, .int 0, .int 0, .int 0], .struct [(0, 1, false), (1, 1, false), (2, 1, false), (3, 1, false)], true⟩),
  (114, ⟨false, 8, [.other], [.v (Value.pointer none)], .scalar, false⟩),
  (115, ⟨false, 8, [.other], [.v (Value.pointer none)], .scalar, false⟩),
  (117, ⟨false, 8, [.other], [.v (Value.pointer none)], .scalar, false⟩)]
theorem tys_m4_eq : tys_m4.map (fun x => tiOf Go.Proofs.Tryz.prog x.1 x.2.cks) = tys_m4.map fun x => some x.2 := by kernel_rfl
theorem md_pc {l : List Thread} {t : Nat} (h : t < l.length) (v : Int) : md (l.map (encTh true)) t 0 (.int v) = (l.set t { l[t] with pc := v }).map (encTh true) := by
  apply List.ext_getElem?
  intro k
  simp only [md, List.getElem?_modify, List.getElem?_map, List.getElem?_set]
  by_cases e : t = k
  · subst e; simp [h]
  · simp [e]
theorem md_val {l : List Thread} {t : Nat} (h : t < l.length) (r : Nat) (v : Int) : List.modify (l.map (encTh true)) t (fun row => row.modify 1 (plant [⟨r, 0, 1⟩] (.int v))) = (l.set t { l[t] with vals := l[t].vals.set r v }).map (encTh true) := by
  apply List.ext_getElem?
  intro k
  simp only [List.getElem?_modify, List.getElem?_map, List.getElem?_set]
  by_cases e : t = k
  · subst e
    simp [h]
    apply List.ext_getElem?
    intro j
    simp only [List.getElem?_modify, List.getElem?_map, List.getElem?_set]
    by_cases e : r = j
    · subst e
      by_cases hr : r < l[t].vals.length <;> simp [hr]
    · simp [e]
  · simp [e]
theorem md_push {l : List Thread} {t : Nat} (h : t < l.length) (b : List Slot) (a v : Int) : md (l.map (encTh true)) t 2 (.sl true none 2 (b.map encSlot ++ [[.int a, .int v]])) = (l.set t { l[t] with buf := b ++ [⟨a, v⟩] }).map (encTh true) := by
  apply List.ext_getElem?
  intro k
  simp only [md, List.getElem?_modify, List.getElem?_map, List.getElem?_set]
  by_cases e : t = k
  · subst e; simp [h]
  · simp [e]
theorem md_int {l : List Int} {i : Nat} (h : i < l.length) (v : Int) : md (l.map encInt) i 0 (.int v) = (l.set i v).map encInt := by
  apply List.ext_getElem?
  intro k
  simp only [md, List.getElem?_modify, List.getElem?_map, List.getElem?_set]
  by_cases e : i = k
  · subst e; simp [h]
  · simp [e]
def instrAt (p : Prog) (m : Machine) (t : Nat) : Option Instr := (m.ths[t]?).bind fun th => (p.codes[t]?).bind fun c => c[th.pc.toNat]?
def execI (m : Machine) (t : Nat) (th : Thread) (i : Instr) : Machine :=
  let r := th.vals[i.r.toNat]?.getD 0
  let s := th.vals[i.s.toNat]?.getD 0
  let c := m.cells[i.n.toNat]?.getD 0
  let put := fun th' : Thread => m.ths.set t th'
  let setR := fun v : Int => put { th with pc := th.pc + 1, vals := th.vals.set i.r.toNat v }
  bif i.op == 0 then { m with ths := setR i.n }
  else bif i.op == 1 then { m with ths := setR (clamp (r + s)) }
  else bif i.op == 8 then { m with ths := setR (clamp (r - s)) }
  else bif i.op == 2 then { m with ths := setR (readT th.buf m.cells i.n) }
  else bif i.op == 3 then { m with ths := put { th with pc := th.pc + 1, buf := th.buf ++ [⟨i.n, r⟩] } }
  else bif i.op == 5 then bif c == r then ⟨m.cells.set i.n.toNat s, setR 1⟩ else { m with ths := setR 0 }
  else bif i.op == 6 then { m with ths := put { th with pc := bif r == 0 then i.n else th.pc + 1 } }
  else bif i.op == 7 then ⟨m.cells.set i.n.toNat s, setR c⟩
  else { m with ths := put { th with pc := th.pc + 1 } }
def execM (p : Prog) (m : Machine) (t : Nat) : Machine :=
  match m.ths[t]?, instrAt p m t with
  | some th, some i => execI m t th i
  | _, _ => m
def exOk (p : Prog) (m : Machine) (t : Nat) : Prop := progOk p = true ∧ isMa p m = true ∧ ∃ i th, instrAt p m t = some i ∧ m.ths[t]? = some th ∧ (i.op = 3 → th.buf.length < 3)
theorem exOk_get {p : Prog} {m : Machine} {t : Nat} (h : exOk p m t) : ∃ (ht : t < m.ths.length) (hc : t < p.codes.length) (n : Nat) (hn : n < p.codes[t].length), m.ths[t].pc = (n : Int) ∧ thOk p.cells m.ths[t] p.codes[t] = true ∧ instrOk p.codes[t][n] p.cells p.codes[t].length = true ∧ memOk m.cells = true ∧ (m.cells.length : Int) = p.cells ∧ p.codes[t].length ≤ 16 ∧
    (p.codes[t][n].op = 3 → m.ths[t].buf.length < 3) ∧ execM p m t = execI m t m.ths[t] p.codes[t][n] := by
  obtain ⟨h1, h2, i, th, h3, h4, h5⟩ := h
  obtain ⟨ht, rfl⟩ := List.getElem?_eq_some_iff.1 h4
  obtain ⟨hc, hth⟩ := isMa_th h2 ht
  have hp := (thOk_iff.1 hth).1
  simp only [instrAt, h4, Option.bind_some, List.getElem?_eq_getElem hc] at h3
  obtain ⟨n, hn⟩ := Int.eq_ofNat_of_zero_le hp.1
  rw [hn, Int.toNat_natCast] at h3
  obtain ⟨hlt, rfl⟩ := List.getElem?_eq_some_iff.1 h3
  have hpo : codeOk p.cells p.codes[t] = true := by
    simp only [progOk, Bool.and_eq_true, List.all_eq_true] at h1
    exact h1.2 _ (List.getElem_mem hc)
  simp only [codeOk, Bool.and_eq_true, List.all_eq_true, decide_eq_true_eq] at hpo
  simp only [isMa, Bool.and_eq_true, decide_eq_true_eq] at h2
  refine ⟨ht, hc, n, hlt, hn, hth, hpo.2 _ (List.getElem_mem hlt), h2.1.1.1, h2.1.1.2, hpo.1, h5, ?_⟩
  simp only [execM, instrAt, h4, Option.bind_some, List.getElem?_eq_getElem hc, hn, Int.toNat_natCast, h3]
/-! iMachine_execute: (*loop.example/g00712/impl.Machine).execute -/
noncomputable def QiMachine_execute : Fx := ⟨Go.Proofs.Tryz.f62, [.io, .ro, .ro], false, mkEnv tys_m4 [(86, SiClamp), (87, SiReadThrough)] [], fun id => bif Nat.beq id 2 then .sq [0, 1, 2, 3, 4, 5, 6, 7, 8, 9, 10, 11, 12] .stop else bif Nat.beq id 4 then .sq [0, 1, 2, 3, 4, 5, 6, 7, 8, 9, 10, 11, 12, 13, 14, 15, 16, 17, 18, 19, 20, 21, 22] .stop else bif Nat.beq id 13 then .sq [0, 1, 2, 3, 4, 5, 6, 7, 8, 9, 10, 11, 12, 13] .stop else bif Nat.beq id 15 then .sq [0, 1, 2, 3, 4, 5, 6, 7, 8, 9, 10, 11, 12, 13, 14, 15] .stop else bif Nat.beq id 17 then .sq [0, 1, 2, 3, 4, 5, 6, 7, 8] .stop else bif Nat.beq id 24 then .sq [0, 1, 2, 3, 4, 5, 6, 7, 8, 9, 10, 11, 12, 13] .stop else .stop, []⟩
noncomputable def FiMachine_execute : List S → Option Res := veil QiMachine_execute.run
noncomputable def SiMachine_execute : Spec := ⟨[.io, .ro, .ro], false, FiMachine_execute⟩
theorem miMachine_execute (x1 : List (List C)) (x2 : List (List C)) (x3 : Int) (x4 : List (List C)) (x5 : Int) : FiMachine_execute [.one (.bx [.sl true none 1 x1, .sl true none 3 x2]), .agg [.int x3, .sl false none 1 x4], .one (.int x5)] = ix x5 x2 (ix x5 x4 ((x4[Int.toNat x5]?).bind fun w1 => tRo [.sl 4] w1 fun _ l1 => (x2[Int.toNat x5]?).bind fun w2 => tOwn [.int .i64] w2 fun n1 => ix n1 l1 ((l1[Int.toNat n1]?).bind fun w3 => tRo [.int .i64, .int .i64, .int .i64, .int .i64] w3 fun n2 n3 n4 n5 => (x2[Int.toNat x5]?).bind fun w4 => tOwn [.int .i64] w4 fun n6 => oc (.int .i64) x2 (Int.toNat x5) 0 ((let e1 : List (List C) := md x2 (Int.toNat x5) 0 (.int (W (n6 + 1))); (e1[Int.toNat x5]?).bind fun w5 => tOwn [.sl 1] (List.drop 1 w5) ((e1[Int.toNat x5]?).bind fun w6 => (w6[1]?).bind fun c1 => (C.asOwn 1 c1).bind fun q1 => ix n3 q1.2 ((e1[Int.toNat x5]?).bind fun w7 => tOwn [.sl 1] (List.drop 1 w7) ((e1[Int.toNat x5]?).bind fun w8 => (w8[1]?).bind fun c2 => (C.asOwn 1 c2).bind fun q2 => ix n4 q2.2 ((e1[Int.toNat x5]?).bind fun w9 => (w9[1]?).bind fun c3 => (C.asOwn 1 c3).bind fun q3 => (q3.2[Int.toNat n4]?).bind fun w10 => tOwn [.int .i64] w10 fun n7 => bif n2 == 0 then (e1[Int.toNat x5]?).bind fun w11 => (w11[1]?).bind fun c4 => (C.asOwn 1 c4).bind fun q4 => (q4.2[Int.toNat n3]?).bind fun w12 => (w12[0]?).bind fun c5 => (C.asInt .i64 c5).bind fun n8 => (let e2 : List (List C) := List.modify e1 (Int.toNat x5) fun row => row.modify 1 (plant [⟨Int.toNat n3, 0, 1⟩] (.int n5)); fin false [.one (.bx [.sl true none 1 x1, .sl true none 3 x2]), .agg [.int x3, .sl false none 1 x4], .one (.int x5)] [] [.one (.bx [.sl true none 1 x1, .sl true none 3 e2]), .one .unk, .one .unk]) else bif n2 == 1 then (e1[Int.toNat x5]?).bind fun w13 => (w13[1]?).bind fun c6 => (C.asOwn 1 c6).bind fun q5 => (q5.2[Int.toNat n3]?).bind fun w14 => tOwn [.int .i64] w14 fun n9 => cV false [.int .i64] (FiClamp [.one (.int (W (n9 + n7)))]) fun n10 => (e1[Int.toNat x5]?).bind fun w15 => (w15[1]?).bind fun c7 => (C.asOwn 1 c7).bind fun q6 => (q6.2[Int.toNat n3]?).bind fun w16 => (w16[0]?).bind fun c8 => (C.asInt .i64 c8).bind fun n11 => (let e3 : List (List C) := List.modify e1 (Int.toNat x5) fun row => row.modify 1 (plant [⟨Int.toNat n3, 0, 1⟩] (.int n10)); fin false [.one (.bx [.sl true none 1 x1, .sl true none 3 x2]), .agg [.int x3, .sl false none 1 x4], .one (.int x5)] [] [.one (.bx [.sl true none 1 x1, .sl true none 3 e3]), .one .unk, .one .unk]) else bif n2 == 8 then (e1[Int.toNat x5]?).bind fun w17 => (w17[1]?).bind fun c9 => (C.asOwn 1 c9).bind fun q7 => (q7.2[Int.toNat n3]?).bind fun w18 => tOwn [.int .i64] w18 fun n12 => cV false [.int .i64] (FiClamp [.one (.int (W (n12 - n7)))]) fun n13 => (e1[Int.toNat x5]?).bind fun w19 => (w19[1]?).bind fun c10 => (C.asOwn 1 c10).bind fun q8 => (q8.2[Int.toNat n3]?).bind fun w20 => (w20[0]?).bind fun c11 => (C.asInt .i64 c11).bind fun n14 => (let e4 : List (List C) := List.modify e1 (Int.toNat x5) fun row => row.modify 1 (plant [⟨Int.toNat n3, 0, 1⟩] (.int n13)); fin false [.one (.bx [.sl true none 1 x1, .sl true none 3 x2]), .agg [.int x3, .sl false none 1 x4], .one (.int x5)] [] [.one (.bx [.sl true none 1 x1, .sl true none 3 e4]), .one .unk, .one .unk]) else bif n2 == 2 then (e1[Int.toNat x5]?).bind fun w21 => tOwn [.sl 2] (List.drop 2 w21) ((e1[Int.toNat x5]?).bind fun w22 => (w22[2]?).bind fun c12 => if C.nested c12 then cV false [.int .i64] (FiReadThrough [.one (C.freeze c12), .agg [.sl false none 1 (freezeRows x1)], .one (.int n5)]) fun n15 => (e1[Int.toNat x5]?).bind fun w23 => (w23[1]?).bind fun c13 => (C.asOwn 1 c13).bind fun q9 => (q9.2[Int.toNat n3]?).bind fun w24 => (w24[0]?).bind fun c14 => (C.asInt .i64 c14).bind fun n16 => (let e5 : List (List C) := List.modify e1 (Int.toNat x5) fun row => row.modify 1 (plant [⟨Int.toNat n3, 0, 1⟩] (.int n15)); fin false [.one (.bx [.sl true none 1 x1, .sl true none 3 x2]), .agg [.int x3, .sl false none 1 x4], .one (.int x5)] [] [.one (.bx [.sl true none 1 x1, .sl true none 3 e5]), .one .unk, .one .unk]) else none) else bif n2 == 3 then (e1[Int.toNat x5]?).bind fun w25 => tOwn [.sl 2] (List.drop 2 w25) ((e1[Int.toNat x5]?).bind fun w26 => (w26[1]?).bind fun c15 => (C.asOwn 1 c15).bind fun q10 => (q10.2[Int.toNat n3]?).bind fun w27 => tOwn [.int .i64] w27 fun n17 => (e1[Int.toNat x5]?).bind fun w28 => (w28[2]?).bind fun c16 => own3 c16 fun o1 m1 l2 => asB 2 (.sl true o1 m1 l2) fun o2 l3 => if (l3.length + 1) * 16 ≤ LIM then ((md e1 (Int.toNat x5) 2 .unk)[Int.toNat x5]?).bind fun w29 => (w29[2]?).bind fun c17 => (let e6 : List (List C) := md (md e1 (Int.toNat x5) 2 .unk) (Int.toNat x5) 2 (.sl true none 2 (l3 ++ [[.int n5, .int n17]])); fin false [.one (.bx [.sl true none 1 x1, .sl true none 3 x2]), .agg [.int x3, .sl false none 1 x4], .one (.int x5)] [] [.one (.bx [.sl true none 1 x1, .sl true none 3 e6]), .one .unk, .one .unk]) else none) else bif n2 == 5 then ix n5 x1 ((x1[Int.toNat n5]?).bind fun w30 => tOwn [.int .i64] w30 fun n18 => (e1[Int.toNat x5]?).bind fun w31 => (w31[1]?).bind fun c18 => (C.asOwn 1 c18).bind fun q11 => (q11.2[Int.toNat n3]?).bind fun w32 => tOwn [.int .i64] w32 fun n19 => bif n18 == n19 then ix n5 x1 (oc (.int .i64) x1 (Int.toNat n5) 0 ((let e7 : List (List C) := md x1 (Int.toNat n5) 0 (.int n7); (e1[Int.toNat x5]?).bind fun w33 => (w33[1]?).bind fun c19 => (C.asOwn 1 c19).bind fun q12 => (q12.2[Int.toNat n3]?).bind fun w34 => (w34[0]?).bind fun c20 => (C.asInt .i64 c20).bind fun n20 => (let e8 : List (List C) := List.modify e1 (Int.toNat x5) fun row => row.modify 1 (plant [⟨Int.toNat n3, 0, 1⟩] (.int 1)); fin false [.one (.bx [.sl true none 1 x1, .sl true none 3 x2]), .agg [.int x3, .sl false none 1 x4], .one (.int x5)] [] [.one (.bx [.sl true none 1 e7, .sl true none 3 e8]), .one .unk, .one .unk])))) else (e1[Int.toNat x5]?).bind fun w35 => (w35[1]?).bind fun c21 => (C.asOwn 1 c21).bind fun q13 => (q13.2[Int.toNat n3]?).bind fun w36 => (w36[0]?).bind fun c22 => (C.asInt .i64 c22).bind fun n21 => (let e9 : List (List C) := List.modify e1 (Int.toNat x5) fun row => row.modify 1 (plant [⟨Int.toNat n3, 0, 1⟩] (.int 0)); fin false [.one (.bx [.sl true none 1 x1, .sl true none 3 x2]), .agg [.int x3, .sl false none 1 x4], .one (.int x5)] [] [.one (.bx [.sl true none 1 x1, .sl true none 3 e9]), .one .unk, .one .unk])) else bif n2 == 6 then (e1[Int.toNat x5]?).bind fun w37 => (w37[1]?).bind fun c23 => (C.asOwn 1 c23).bind fun q14 => (q14.2[Int.toNat n3]?).bind fun w38 => tOwn [.int .i64] w38 fun n22 => bif n22 == 0 then oc (.int .i64) e1 (Int.toNat x5) 0 ((let e10 : List (List C) := md e1 (Int.toNat x5) 0 (.int n5); fin false [.one (.bx [.sl true none 1 x1, .sl true none 3 x2]), .agg [.int x3, .sl false none 1 x4], .one (.int x5)] [] [.one (.bx [.sl true none 1 x1, .sl true none 3 e10]), .one .unk, .one .unk])) else fin false [.one (.bx [.sl true none 1 x1, .sl true none 3 x2]), .agg [.int x3, .sl false none 1 x4], .one (.int x5)] [] [.one (.bx [.sl true none 1 x1, .sl true none 3 e1]), .one .unk, .one .unk] else bif n2 == 7 then ix n5 x1 ((x1[Int.toNat n5]?).bind fun w39 => tOwn [.int .i64] w39 fun n23 => ix n5 x1 (oc (.int .i64) x1 (Int.toNat n5) 0 ((let e11 : List (List C) := md x1 (Int.toNat n5) 0 (.int n7); (e1[Int.toNat x5]?).bind fun w40 => (w40[1]?).bind fun c24 => (C.asOwn 1 c24).bind fun q15 => (q15.2[Int.toNat n3]?).bind fun w41 => (w41[0]?).bind fun c25 => (C.asInt .i64 c25).bind fun n24 => (let e12 : List (List C) := List.modify e1 (Int.toNat x5) fun row => row.modify 1 (plant [⟨Int.toNat n3, 0, 1⟩] (.int n23)); fin false [.one (.bx [.sl true none 1 x1, .sl true none 3 x2]), .agg [.int x3, .sl false none 1 x4], .one (.int x5)] [] [.one (.bx [.sl true none 1 e11, .sl true none 3 e12]), .one .unk, .one .unk]))))) else fin false [.one (.bx [.sl true none 1 x1, .sl true none 3 x2]), .agg [.int x3, .sl false none 1 x4], .one (.int x5)] [] [.one (.bx [.sl true none 1 x1, .sl true none 3 e1]), .one .unk, .one .unk]))))))))) := Fx.eq (by kernel_rfl)
theorem okiMachine_execute : CalleeOk Go.Proofs.Tryz.prog 62 SiMachine_execute := Fx.ok (F := QiMachine_execute) follows (envTy_mk tys_m4_eq) (envSpec_of (specsOk_cons okiClamp (specsOk_cons okiReadThrough specsOk_nil))) Go.Proofs.Tryz.func62 (by kernel_rfl) (by kernel_rfl) (by rw [show subs QiMachine_execute.code = [] by kernel_rfl]; trivial) (by kernel_rfl) (by kernel_rfl) rfl
theorem FiMachine_execute_at (p : Prog) (m : Machine) (t : Nat) (h : exOk p m t) : FiMachine_execute [S.one (C.bx (encMa true m)), S.agg (encProg false p), S.one (C.int (t : Int))] = some (S.tup [], [S.one (C.bx (encMa true (execM p m t))), S.one C.unk, S.one C.unk]) := by
  obtain ⟨ht, hc, n, hn, hpc, hth, hin, hmo, hml, hcl, h3, he⟩ := exOk_get h
  obtain ⟨pc, codes⟩ := p
  obtain ⟨cells, ths⟩ := m
  simp only at ht hc hn hpc hth hin hmo hml hcl h3 he
  rw [he]
  obtain ⟨⟨hp1, hp2⟩, hv4, hvv, hbo, hbc⟩ := thOk_iff.1 hth
  have hW : W ((n : Int) + 1) = (n : Int) + 1 := W_eq (by omega) (by omega)
  generalize hi : codes[t][n] = i at *
  simp only [instrOk, Bool.and_eq_true] at hin
  obtain ⟨⟨⟨⟨⟨⟨⟨g1, g2⟩, g3⟩, g4⟩, g5⟩, g6⟩, g7⟩, g8⟩ := hin
  simp only [inB, Bool.and_eq_true, decide_eq_true_eq] at g1 g2 g3 g4 g5
  obtain ⟨ir, hr⟩ := Int.eq_ofNat_of_zero_le g4.1
  obtain ⟨is, hs⟩ := Int.eq_ofNat_of_zero_le g5.1
  have hir : ir < ths[t].vals.length := by omega
  have his : is < ths[t].vals.length := by omega
  have hvr := hvv _ (List.getElem_mem hir)
  have hvs := hvv _ (List.getElem_mem his)
  simp only [isV, inB, Bool.and_eq_true, decide_eq_true_eq] at hvr hvs
  have hA : W (ths[t].vals[ir] + ths[t].vals[is]) = ths[t].vals[ir] + ths[t].vals[is] := W_eq (by omega) (by omega)
  have hS : W (ths[t].vals[ir] - ths[t].vals[is]) = ths[t].vals[ir] - ths[t].vals[is] := W_eq (by omega) (by omega)
  have hL : ths[t].buf.length ≤ 3 := by
    simp only [bufOk, Bool.and_eq_true, decide_eq_true_eq] at hbo; exact hbo.1
  have hLim : (ths[t].buf.length + 1) * 16 ≤ LIM := by unfold LIM; omega
  have hcl16 : cells.length ≤ 16 := by
    simp only [memOk, inB, Bool.and_eq_true, decide_eq_true_eq] at hmo; omega
  rw [miMachine_execute]
  simp [-List.map_set, ht, hc, hn, hpc, hi, hW, hr, hs, hir, his, md_pc, md_val, md_push, FiClamp_at, hA, hS, hLim]
  have hcases : i.op = 0 ∨ i.op = 1 ∨ i.op = 8 ∨ i.op = 4 ∨ i.op = 6 ∨ i.op = 2 ∨ i.op = 3 ∨ i.op = 5 ∨ i.op = 7 := by omega
  have hn2 : i.op = 2 ∨ i.op = 3 ∨ i.op = 5 ∨ i.op = 7 → 0 ≤ i.n ∧ i.n < cells.length := by
    intro ho
    have : inB i.n 0 (pc - 1) = true := by
      rcases ho with e | e | e | e <;> simpa [useN, e] using g8
    simp only [inB, Bool.and_eq_true, decide_eq_true_eq] at this
    omega
  rcases hcases with e | e | e | e | e | e | e | e | e
  · simp [execI, e, hr, hpc]
  · simp [execI, e, hr, hs, hir, his, hpc]
  · simp [execI, e, hr, hs, hir, his, hpc]
  · simp [execI, e, hr, hs, hir, his, hpc]
  · simp [execI, e, hr, hs, hir, his, hpc]
    cases (ths[t].vals[ir] == 0) <;> simp
  · obtain ⟨k1, k2⟩ := hn2 (by omega)
    simp [execI, e, hr, hs, hir, his, hpc, C.freeze, FiReadThrough_at none ths[t].buf cells i.n ⟨by omega, hmo, hbo, k1, k2⟩]
  · simp [execI, e, hr, hs, hir, his, hpc]
  · obtain ⟨k1, k2⟩ := hn2 (by omega)
    obtain ⟨k, hk⟩ := Int.eq_ofNat_of_zero_le k1
    have hk' : k < cells.length := by omega
    simp [-List.map_set, execI, e, hr, hs, hir, his, hpc, hk, hk', md_int]
    cases (cells[k] == ths[t].vals[ir]) <;> simp
  · obtain ⟨k1, k2⟩ := hn2 (by omega)
    obtain ⟨k, hk⟩ := Int.eq_ofNat_of_zero_le k1
    have hk' : k < cells.length := by omega
    simp [-List.map_set, execI, e, hr, hs, hir, his, hpc, hk, hk', md_int]
end Go.Proofs.Gh.Gm
set_option linter.unusedVariables false
set_option linter.unusedSimpArgs false
set_option maxRecDepth 100000
set_option maxHeartbeats 2000000
namespace Go.Proofs.Gh.Gm
def tys_m5 : List (Nat × TI) := [(0, ⟨false, 0, [], [], .tuple [], false⟩),
  (3, ⟨false, 8, [.int .i64], [.int 0], .scalar, false⟩),
  (25, ⟨false, 24, [.sl 1], [.sl true (some true) 1 []], .slice 3, false⟩),
  (35, ⟨true, 24, [.sl 1], [.sl true (some true) 1 []], .struct [(0, 1, false)], false⟩),
  (36, ⟨false, 24, [.sl 3], [.sl true (some true) 3 []], .slice 75, false⟩),
  (38, ⟨true, 48, [.sl 1, .sl 3], [.sl true (some true) 1 [], .sl true (some true) 3 []], .struct [(0, 1, true), (1, 1, false)], false⟩),
  (73, ⟨false, 24, [.sl 2], [.sl true (some true) 2 []], .slice 90, false⟩),
  (75, ⟨true, 56, [.int .i64, .sl 1, .sl 2], [.int 0, .sl true (some true) 1 [], .sl true (some true) 2 []], .struct [(0, 1, false), (1, 1, false), (2, 1, false)], false⟩),
  (90, ⟨true, 16, [.int .i64, .int .i64], [.int 0, .int 0], .struct [(0, 1, false), (1, 1, false)], true⟩),
  (114, ⟨false, 8, [.other], [.v (Value.pointer none)], .scalar, false⟩),
  (115, ⟨false, 8, [.other], [.v (Value.pointer none)], .scalar, false⟩)]
theorem tys_m5_eq : tys_m5.map (fun x => tiOf Go.Proofs.Tryz.prog x.1 x.2.cks) = tys_m5.map fun x => some x.2 := by kernel_rfl
def drainM (m : Machine) (t : Nat) : Machine :=
  match m.ths[t]? with
  | some th => match th.buf with
    | s :: b => ⟨m.cells.set s.a.toNat s.v, m.ths.set t { th with buf := b }⟩
    | [] => m
  | none => m
def drOk (m : Machine) (t : Nat) : Prop := ∃ th s b, m.ths[t]? = some th ∧ th.buf = s :: b ∧ 0 ≤ s.a ∧ s.a < m.cells.length
theorem md_buf {l : List Thread} {t : Nat} (h : t < l.length) (b : List Slot) : md (l.map (encTh true)) t 2 (.sl true none 2 (b.map encSlot)) = (l.set t { l[t] with buf := b }).map (encTh true) := by
  apply List.ext_getElem?
  intro k
  simp only [md, List.getElem?_modify, List.getElem?_map, List.getElem?_set]
  by_cases e : t = k
  · subst e; simp [h]
  · simp [e]
/-! iMachine_drain: (*loop.example/g00712/impl.Machine).drain -/
noncomputable def QiMachine_drain : Fx := ⟨Go.Proofs.Tryz.f61, [.io, .ro], false, mkEnv tys_m5 [(85, SslicesDelete_iSlot)] [], fun id => bif Nat.beq id 1 then .sq [0, 1, 2, 3, 4, 5, 6, 7, 8, 9, 10, 11, 12, 13, 14, 15, 16, 17, 18, 19, 20] .stop else .stop, []⟩
noncomputable def FiMachine_drain : List S → Option Res := veil QiMachine_drain.run
noncomputable def SiMachine_drain : Spec := ⟨[.io, .ro], false, FiMachine_drain⟩
theorem miMachine_drain (x1 : List (List C)) (x2 : List (List C)) (x3 : Int) : FiMachine_drain [.one (.bx [.sl true none 1 x1, .sl true none 3 x2]), .one (.int x3)] = ix x3 x2 ((x2[Int.toNat x3]?).bind fun w1 => tOwn [.sl 2] (List.drop 2 w1) ((x2[Int.toNat x3]?).bind fun w2 => (w2[2]?).bind fun c1 => (C.asOwn 2 c1).bind fun q1 => ix 0 q1.2 ((x2[Int.toNat x3]?).bind fun w3 => (w3[2]?).bind fun c2 => (C.asOwn 2 c2).bind fun q2 => (q2.2[0]?).bind fun w4 => tOwn [.int .i64] w4 fun n1 => (x2[Int.toNat x3]?).bind fun w5 => tOwn [.sl 2] (List.drop 2 w5) ((x2[Int.toNat x3]?).bind fun w6 => (w6[2]?).bind fun c3 => (C.asOwn 2 c3).bind fun q3 => ix 0 q3.2 ((x2[Int.toNat x3]?).bind fun w7 => (w7[2]?).bind fun c4 => (C.asOwn 2 c4).bind fun q4 => (q4.2[0]?).bind fun w8 => tOwn [.int .i64] (List.drop 1 w8) fun n2 => ix n1 x1 (oc (.int .i64) x1 (Int.toNat n1) 0 ((let e1 : List (List C) := md x1 (Int.toNat n1) 0 (.int n2); (x2[Int.toNat x3]?).bind fun w9 => tOwn [.sl 2] (List.drop 2 w9) ((x2[Int.toNat x3]?).bind fun w10 => (w10[2]?).bind fun c5 => own3 c5 fun o1 m1 l1 => cV false [.sl 2] (FslicesDelete_iSlot [.one (.sl true o1 m1 l1), .one (.int 0), .one (.int 1)]) fun o2 l2 => ((md x2 (Int.toNat x3) 2 .unk)[Int.toNat x3]?).bind fun w11 => (w11[2]?).bind fun c6 => (let e2 : List (List C) := md (md x2 (Int.toNat x3) 2 .unk) (Int.toNat x3) 2 (.sl true none 2 l2); fin false [.one (.bx [.sl true none 1 x1, .sl true none 3 x2]), .one (.int x3)] [] [.one (.bx [.sl true none 1 e1, .sl true none 3 e2]), .one .unk])))))))))) := Fx.eq (by kernel_rfl)
theorem okiMachine_drain : CalleeOk Go.Proofs.Tryz.prog 61 SiMachine_drain := Fx.ok (F := QiMachine_drain) follows (envTy_mk tys_m5_eq) (envSpec_of (specsOk_cons okslicesDelete_iSlot specsOk_nil)) Go.Proofs.Tryz.func61 (by kernel_rfl) (by kernel_rfl) (by rw [show subs QiMachine_drain.code = [] by kernel_rfl]; trivial) (by kernel_rfl) (by kernel_rfl) rfl
theorem FiMachine_drain_at (m : Machine) (t : Nat) (h : drOk m t) : FiMachine_drain [S.one (C.bx (encMa true m)), S.one (C.int (t : Int))] = some (S.tup [], [S.one (C.bx (encMa true (drainM m t))), S.one C.unk]) := by
  obtain ⟨th, s, b, h1, h2, h3, h4⟩ := h
  obtain ⟨cells, ths⟩ := m
  simp only at h1 h4
  obtain ⟨ht, rfl⟩ := List.getElem?_eq_some_iff.1 h1
  obtain ⟨k, hk⟩ := Int.eq_ofNat_of_zero_le h3
  have hk' : k < cells.length := by omega
  have h0 : ix 0 (encSlot s :: b.map encSlot) = fun k => k := by funext k; simp [ix]
  have hd := FslicesDelete_iSlot_at slot_plain none s b
  rw [miMachine_drain]
  simp [-List.map_set, ht, h2, hk, hk', md_int, md_buf, drainM, h0, hd]
def drainAllM (m : Machine) (t : Nat) : Machine :=
  match m.ths[t]? with
  | some th => ⟨th.buf.foldl (fun c s => c.set s.a.toNat s.v) m.cells, m.ths.set t { th with buf := [] }⟩
  | none => m
def drAllOk (m : Machine) (t : Nat) : Prop := ∃ th, m.ths[t]? = some th ∧ th.buf.length ≤ 1048576 ∧ ∀ s ∈ th.buf, 0 ≤ s.a ∧ s.a < m.cells.length
/-! iMachine_drainAll: (*loop.example/g00712/impl.Machine).drainAll -/
@[reducible] def hiMachine_drainAll_0 : Sh := ⟨[.one (.o (.pl 0 0 [])), .one (.o (.i .i64))], [(false, [.o (.sl true 1), .o (.sl true 3)])]⟩
@[reducible] def xiMachine_drainAll_0 : List (Ex × Sh) := [(.exit 0, ⟨[], [(false, [.o (.sl true 1), .o (.sl true 3)])]⟩)]
noncomputable def RiMachine_drainAll_0 : KC xiMachine_drainAll_0 (hiMachine_drainAll_0.K → hiMachine_drainAll_0.K) := fun k0 nx v1 v2 v3 v4 v5 => ix v1 v5 ((v5[Int.toNat v1]?).bind fun w1 => tOwn [.sl 2] (List.drop 2 w1) ((v5[Int.toNat v1]?).bind fun w2 => (w2[2]?).bind fun c1 => (C.asOwn 2 c1).bind fun q1 => bif decide ((q1.2.length : Int) > 0) then cOT [.bx [.sl 1, .sl 3]] [] (FiMachine_drain [.one (.bx [.sl true v2 1 v3, .sl true v4 3 v5]), .one (.int v1)]) fun o1 l1 o2 l2 => nx v1 o1 l1 o2 l2 else k0 v2 v3 v4 v5))
noncomputable def LiMachine_drainAll_0 : Lp := ⟨0, [0, 1], [], 1, 17, hiMachine_drainAll_0, xiMachine_drainAll_0, RiMachine_drainAll_0⟩
noncomputable def QiMachine_drainAll : Fx := ⟨Go.Proofs.Tryz.f78, [.io, .ro], false, mkEnv tys_m5 [(61, SiMachine_drain)] [(61, [.bx [.sl 1, .sl 3]])], fun _ => .stop, [LiMachine_drainAll_0]⟩
noncomputable def FiMachine_drainAll : List S → Option Res := veil QiMachine_drainAll.run
noncomputable def SiMachine_drainAll : Spec := ⟨[.io, .ro], false, FiMachine_drainAll⟩
theorem miMachine_drainAll (x1 : List (List C)) (x2 : List (List C)) (x3 : Int) : FiMachine_drainAll [.one (.bx [.sl true none 1 x1, .sl true none 3 x2]), .one (.int x3)] = iterC (RiMachine_drainAll_0 (fun y1 y2 y3 y4 => fin false [.one (.bx [.sl true none 1 x1, .sl true none 3 x2]), .one (.int x3)] [] [.one (.bx [.sl true y1 1 y2, .sl true y3 3 y4]), .one .unk])) FUEL x3 none x1 none x2 := Fx.eq (by kernel_rfl)
theorem stiMachine_drainAll_0 : LiMachine_drainAll_0.Step QiMachine_drainAll.E QiMachine_drainAll.dr QiMachine_drainAll.lp ((findLoop 0 QiMachine_drainAll.code).getD .skip) := fun k nx v => by kernel_rfl
theorem okiMachine_drainAll : CalleeOk Go.Proofs.Tryz.prog 78 SiMachine_drainAll := Fx.ok (F := QiMachine_drainAll) follows (envTy_mk tys_m5_eq) (envSpec_of (specsOk_cons okiMachine_drain specsOk_nil)) Go.Proofs.Tryz.func78 (by kernel_rfl) (by kernel_rfl) (by
  rw [show subs QiMachine_drainAll.code = [(findLoop 0 QiMachine_drainAll.code).getD .skip] by kernel_rfl]
  exact ⟨stepAt_some (by kernel_rfl) stiMachine_drainAll_0, trivial⟩) (by kernel_rfl) (by kernel_rfl) rfl
theorem FiMachine_drainAll_at (m : Machine) (t : Nat) (h : drAllOk m t) : FiMachine_drainAll [S.one (C.bx (encMa true m)), S.one (C.int (t : Int))] = some (S.tup [], [S.one (C.bx (encMa true (drainAllM m t))), S.one C.unk]) := by
  obtain ⟨th, h1, h2, h3⟩ := h
  obtain ⟨cells, ths⟩ := m
  simp only at h1 h3
  obtain ⟨ht, rfl⟩ := List.getElem?_eq_some_iff.1 h1
  rw [miMachine_drainAll]
  have hfold := iter_fold (h := hiMachine_drainAll_0) (fb := RiMachine_drainAll_0 (fun y1 y2 y3 y4 => fin false [.one (.bx [.sl true none 1 (cells.map encInt), .sl true none 3 (ths.map (encTh true))]), .one (.int (t : Int))] [] [.one (.bx [.sl true y1 1 y2, .sl true y3 3 y4]), .one .unk])) ths[t].buf
    (fun i (c : List Int) f => f (t : Int) none (c.map encInt) none ((ths.set t { ths[t] with buf := ths[t].buf.drop i }).map (encTh true))) (fun c s => c.set s.a.toNat s.v)
    (fun c => some (.tup [], [.one (.bx (encMa true ⟨c, ths.set t { ths[t] with buf := [] }⟩)), .one .unk])) (fun _ c => c.length = cells.length) (by omega) ?_ ?_ cells rfl
  · simp only [List.drop_zero] at hfold
    rw [show ths.set t { ths[t] with buf := ths[t].buf } = ths from List.set_getElem_self ht] at hfold
    refine hfold.trans ?_
    simp [drainAllM, ht]
  · intro nx c hc
    simp [-List.map_set, RiMachine_drainAll_0, ht, List.drop_length]
  · intro nx i c hi hc hW
    refine ⟨by simpa using hc, ?_⟩
    have hd : ths[t].buf.drop i = ths[t].buf[i] :: ths[t].buf.drop (i + 1) := (List.getElem_cons_drop hi).symm
    have hs := h3 _ (List.getElem_mem hi)
    have hdr := FiMachine_drain_at ⟨c, ths.set t { ths[t] with buf := ths[t].buf.drop i }⟩ t ⟨{ ths[t] with buf := ths[t].buf.drop i }, ths[t].buf[i], ths[t].buf.drop (i + 1), by simp [ht], hd, hs.1, by simp only; omega⟩
    have he : drainM ⟨c, ths.set t { ths[t] with buf := ths[t].buf.drop i }⟩ t = ⟨c.set ths[t].buf[i].a.toNat ths[t].buf[i].v, ths.set t { ths[t] with buf := ths[t].buf.drop (i + 1) }⟩ := by
      rw [hd]
      simp only [drainM, List.getElem?_set_self ht, List.set_set]
    rw [he] at hdr
    simp only [encMa] at hdr
    have hlen : 0 < ths[t].buf.length - i := by omega
    simp [-List.map_set, RiMachine_drainAll_0, ht, hdr, hlen]
end Go.Proofs.Gh.Gm
set_option linter.unusedVariables false
set_option linter.unusedSimpArgs false
set_option maxRecDepth 100000
set_option maxHeartbeats 2000000
namespace Go.Proofs.Gh.Gm
def tys_m6 : List (Nat × TI) := []
theorem tys_m6_eq : tys_m6.map (fun x => tiOf Go.Proofs.Tryz.prog x.1 x.2.cks) = tys_m6.map fun x => some x.2 := by kernel_rfl
theorem isMa_iff {p : Prog} {m : Machine} : isMa p m = true ↔ memOk m.cells = true ∧ (m.cells.length : Int) = p.cells ∧ m.ths.length = p.codes.length ∧ ∀ (i : Nat) (h : i < m.ths.length) (h' : i < p.codes.length), thOk p.cells m.ths[i] p.codes[i] = true := by
  constructor
  · intro h
    have h0 := h
    simp only [isMa, Bool.and_eq_true, decide_eq_true_eq] at h0
    exact ⟨h0.1.1.1, h0.1.1.2, h0.1.2, fun i hi hi' => (isMa_th h hi).2⟩
  · rintro ⟨h1, h2, h3, h4⟩
    simp only [isMa, Bool.and_eq_true, decide_eq_true_eq, List.all_eq_true]
    refine ⟨⟨⟨h1, h2⟩, h3⟩, fun x hx => ?_⟩
    obtain ⟨i, hi, rfl⟩ := List.mem_iff_getElem.1 hx
    rw [List.getElem_zip]
    exact h4 i (by simp at hi; omega) (by simp at hi; omega)
theorem isMa_set {p : Prog} {m : Machine} (h : isMa p m = true) {t : Nat} {th : Thread} (ht : ∀ hc : t < p.codes.length, thOk p.cells th p.codes[t] = true) : isMa p { m with ths := m.ths.set t th } = true := by
  obtain ⟨h1, h2, h3, h4⟩ := isMa_iff.1 h
  refine isMa_iff.2 ⟨h1, h2, by simpa using h3, fun i hi hi' => ?_⟩
  simp only [List.getElem_set]
  split
  · rename_i e; subst e; exact ht hi'
  · exact h4 i (by simpa using hi) hi'
theorem memOk_set {c : List Int} {i : Nat} {v : Int} (h : memOk c = true) (hv : isV v = true) : memOk (c.set i v) = true := by
  simp only [memOk, Bool.and_eq_true, List.all_eq_true, List.length_set] at h ⊢
  exact ⟨h.1, fun x hx => (List.mem_or_eq_of_mem_set hx).elim (h.2 x) (fun e => e ▸ hv)⟩
theorem isMa_cells {p : Prog} {m : Machine} (h : isMa p m = true) {i : Nat} {v : Int} (hv : isV v = true) : isMa p { m with cells := m.cells.set i v } = true := by
  obtain ⟨h1, h2, h3, h4⟩ := isMa_iff.1 h
  exact isMa_iff.2 ⟨memOk_set h1 hv, by simpa using h2, h3, h4⟩
theorem isMa_bT {p : Prog} {m : Machine} (hp : progOk p = true) (h : isMa p m = true) : m.cells.length ≤ 16 ∧ m.ths.length ≤ 3 ∧ ∀ t ∈ m.ths, t.vals.length = 4 ∧ t.buf.length ≤ 3 := by
  obtain ⟨h1, h2, h3, h4⟩ := isMa_iff.1 h
  simp only [memOk, inB, Bool.and_eq_true, decide_eq_true_eq] at h1
  simp only [progOk, inB, Bool.and_eq_true, decide_eq_true_eq] at hp
  refine ⟨by omega, by omega, fun t ht => ?_⟩
  obtain ⟨i, hi, rfl⟩ := List.mem_iff_getElem.1 ht
  have := thOk_iff.1 (h4 i hi (by omega))
  have hb := this.2.2.2.1
  simp only [bufOk, Bool.and_eq_true, decide_eq_true_eq] at hb
  exact ⟨this.2.1, hb.1⟩
theorem isV_clamp (n : Int) : isV (clamp n) = true := by
  have e : clamp n = -1000000 ∨ clamp n = 1000000 ∨ (clamp n = n ∧ -1000000 < n ∧ n < 1000000) := by
    unfold clamp
    by_cases h1 : -1000000 < n <;> by_cases h2 : n < 1000000 <;> simp [h1, h2]
  rcases e with e | e | ⟨e, h1, h2⟩
  · rw [e]; rfl
  · rw [e]; rfl
  · rw [e]
    simp only [isV, inB, Bool.and_eq_true, decide_eq_true_eq]
    omega
theorem isV_getD {l : List Int} (h : ∀ v ∈ l, isV v = true) (i : Nat) : isV (l[i]?.getD 0) = true := by
  cases e : l[i]? with
  | none => rfl
  | some v => exact h v (List.mem_of_getElem? e)
theorem isV_readT {b : List Slot} {c : List Int} (hb : bufOk b = true) (hc : memOk c = true) (a : Int) : isV (readT b c a) = true := by
  simp only [readT]
  split
  · rename_i s hs
    have := List.mem_of_find?_eq_some hs
    simp only [bufOk, slotOk, Bool.and_eq_true, List.all_eq_true] at hb
    exact (hb.2 s (by simpa using this)).2
  · simp only [memOk, Bool.and_eq_true, List.all_eq_true] at hc
    exact isV_getD hc.2 _
theorem isMa_exec {p : Prog} {m : Machine} {t : Nat} (h : exOk p m t) : isMa p (execM p m t) = true := by
  obtain ⟨ht, hc, n, hn, hpc, hth, hin, hmo, hml, hcl, h3, he⟩ := exOk_get h
  have hm := h.2.1
  rw [he]
  obtain ⟨⟨hp1, hp2⟩, hv4, hvv, hbo, hbc⟩ := thOk_iff.1 hth
  generalize p.codes[t][n] = i at *
  simp only [instrOk, Bool.and_eq_true] at hin
  obtain ⟨⟨⟨⟨⟨⟨⟨g1, g2⟩, g3⟩, g4⟩, g5⟩, g6⟩, g7⟩, g8⟩ := hin
  simp only [inB, Bool.and_eq_true, decide_eq_true_eq] at g1 g2 g3 g4 g5
  have hset : ∀ v, isV v = true → isMa p { m with ths := m.ths.set t { m.ths[t] with pc := m.ths[t].pc + 1, vals := m.ths[t].vals.set i.r.toNat v } } = true := fun v hv =>
    isMa_set hm fun _ => thOk_iff.2 ⟨⟨by simp only; omega, by simp only; omega⟩, by simpa using hv4, fun x hx => (List.mem_or_eq_of_mem_set hx).elim (hvv x) (fun e => e ▸ hv), hbo, hbc⟩
  have hcases : i.op = 0 ∨ i.op = 1 ∨ i.op = 8 ∨ i.op = 4 ∨ i.op = 6 ∨ i.op = 2 ∨ i.op = 3 ∨ i.op = 5 ∨ i.op = 7 := by omega
  have hn2 : i.op = 2 ∨ i.op = 3 ∨ i.op = 5 ∨ i.op = 7 → 0 ≤ i.n ∧ i.n < p.cells := by
    intro ho
    have : inB i.n 0 (p.cells - 1) = true := by
      rcases ho with e | e | e | e <;> simpa [useN, e] using g8
    simp only [inB, Bool.and_eq_true, decide_eq_true_eq] at this
    omega
  have hmc : ∀ k : Nat, isV (m.cells[k]?.getD 0) = true := by
    simp only [memOk, Bool.and_eq_true, List.all_eq_true] at hmo
    exact isV_getD hmo.2
  rcases hcases with e | e | e | e | e | e | e | e | e
  · have hv : isV i.n = true := by
      have : inB i.n (-1000) 1000 = true := by simpa [useN, e] using g8
      simp only [isV, inB, Bool.and_eq_true, decide_eq_true_eq] at this ⊢
      omega
    simpa [execI, e] using hset _ hv
  · simpa [execI, e] using hset _ (isV_clamp _)
  · simpa [execI, e] using hset _ (isV_clamp _)
  · simpa [execI, e] using isMa_set hm (t := t) (th := { m.ths[t] with pc := m.ths[t].pc + 1 }) fun _ => thOk_iff.2 ⟨⟨by simp only; omega, by simp only; omega⟩, hv4, hvv, hbo, hbc⟩
  · have hj : inB i.n 0 p.codes[t].length = true := by simpa [useN, e] using g8
    simp only [inB, Bool.and_eq_true, decide_eq_true_eq] at hj
    simpa [execI, e] using isMa_set hm (t := t) (th := { m.ths[t] with pc := bif m.ths[t].vals[i.r.toNat]?.getD 0 == 0 then i.n else m.ths[t].pc + 1 }) fun _ => thOk_iff.2 ⟨by
      cases (m.ths[t].vals[i.r.toNat]?.getD 0 == 0)
      · exact ⟨by simp only [cond_false]; omega, by simp only [cond_false]; omega⟩
      · exact ⟨by simp only [cond_true]; omega, by simp only [cond_true]; omega⟩, hv4, hvv, hbo, hbc⟩
  · simpa [execI, e] using hset _ (isV_readT hbo hmo _)
  · obtain ⟨k1, k2⟩ := hn2 (by omega)
    have hb3 := h3 e
    simpa [execI, e] using isMa_set hm (t := t) (th := { m.ths[t] with pc := m.ths[t].pc + 1, buf := m.ths[t].buf ++ [⟨i.n, m.ths[t].vals[i.r.toNat]?.getD 0⟩] }) fun _ => thOk_iff.2 ⟨⟨by simp only; omega, by simp only; omega⟩, hv4, hvv, by
      simp only [bufOk, slotOk, inB, Bool.and_eq_true, decide_eq_true_eq, List.all_eq_true, List.length_append, List.length_singleton, List.mem_append, List.mem_singleton] at hbo ⊢
      refine ⟨by omega, fun s hs => ?_⟩
      rcases hs with hs | rfl
      · exact hbo.2 s hs
      · exact ⟨by simp only; omega, isV_getD hvv _⟩, fun s hs => by
      rcases List.mem_append.1 hs with hs | hs
      · exact hbc s hs
      · rw [List.mem_singleton.1 hs]; exact k2⟩
  · have h1 := isMa_cells (hset 1 rfl) (i := i.n.toNat) (v := m.ths[t].vals[i.s.toNat]?.getD 0) (isV_getD hvv _)
    have h0 := hset 0 rfl
    simp only [execI, e]
    cases (m.cells[i.n.toNat]?.getD 0 == m.ths[t].vals[i.r.toNat]?.getD 0)
    · simpa using h0
    · simpa using h1
  · have h1 := isMa_cells (hset _ (hmc i.n.toNat)) (i := i.n.toNat) (v := m.ths[t].vals[i.s.toNat]?.getD 0) (isV_getD hvv _)
    simpa [execI, e] using h1
theorem isMa_drain {p : Prog} {m : Machine} {t : Nat} (hm : isMa p m = true) (h : drOk m t) : isMa p (drainM m t) = true := by
  obtain ⟨th, s, b, h1, h2, h3, h4⟩ := h
  obtain ⟨ht, rfl⟩ := List.getElem?_eq_some_iff.1 h1
  obtain ⟨hc, hth⟩ := isMa_th hm ht
  obtain ⟨hp, hv4, hvv, hbo, hbc⟩ := thOk_iff.1 hth
  rw [h2] at hbo hbc
  simp only [bufOk, slotOk, Bool.and_eq_true, List.all_eq_true, decide_eq_true_eq, List.length_cons] at hbo
  have h5 := isMa_set hm (t := t) (th := { m.ths[t] with buf := b }) fun _ => thOk_iff.2 ⟨hp, hv4, hvv, by
    simp only [bufOk, slotOk, Bool.and_eq_true, List.all_eq_true, decide_eq_true_eq]
    exact ⟨by omega, fun s' hs => hbo.2 s' (List.mem_cons_of_mem _ hs)⟩, fun s' hs => hbc s' (List.mem_cons_of_mem _ hs)⟩
  have h6 := isMa_cells h5 (i := s.a.toNat) (v := s.v) (hbo.2 s (by simp)).2
  simpa [drainM, h1, h2] using h6
theorem drOk_of {p : Prog} {m : Machine} {t : Int} (hm : isMa p m = true) (h : canMv p m t true = true) : 0 ≤ t ∧ drOk m t.toNat := by
  simp only [canMv, inB, Bool.and_eq_true, decide_eq_true_eq] at h
  obtain ⟨⟨h0, h1⟩, h2⟩ := h
  refine ⟨h0, ?_⟩
  have ht : t.toNat < m.ths.length := by omega
  obtain ⟨hc, hth⟩ := isMa_th hm ht
  rw [List.getElem?_eq_getElem ht, List.getElem?_eq_getElem hc] at h2
  obtain ⟨hp, hv4, hvv, hbo, hbc⟩ := thOk_iff.1 hth
  have hml := (isMa_iff.1 hm).2.1
  cases hb : m.ths[t.toNat].buf with
  | nil => simp [hb] at h2
  | cons s b =>
    rw [hb] at hbo hbc
    simp only [bufOk, slotOk, inB, Bool.and_eq_true, List.all_eq_true, decide_eq_true_eq] at hbo
    have h3 := (hbo.2 s (by simp)).1
    have h4 := hbc s (by simp)
    exact ⟨_, s, b, List.getElem?_eq_getElem ht, hb, h3.1, by omega⟩
theorem exOk_of {p : Prog} {m : Machine} {t : Int} (hp : progOk p = true) (hm : isMa p m = true) (h : canMv p m t false = true) : 0 ≤ t ∧ exOk p m t.toNat := by
  simp only [canMv, inB, Bool.and_eq_true, decide_eq_true_eq] at h
  obtain ⟨⟨h0, h1⟩, h2⟩ := h
  refine ⟨h0, hp, hm, ?_⟩
  have ht : t.toNat < m.ths.length := by omega
  obtain ⟨hc, hth⟩ := isMa_th hm ht
  rw [List.getElem?_eq_getElem ht, List.getElem?_eq_getElem hc] at h2
  simp only [cond_false] at h2
  cases hi : p.codes[t.toNat][m.ths[t.toNat].pc.toNat]? with
  | none => rw [hi] at h2; simp at h2
  | some i =>
    rw [hi] at h2
    refine ⟨i, _, by simp [instrAt, List.getElem?_eq_getElem ht, List.getElem?_eq_getElem hc, hi], List.getElem?_eq_getElem ht, fun e => ?_⟩
    simpa [e] using h2
def mvM (p : Prog) (m : Machine) (t : Int) (dr : Bool) : Machine := bif dr then drainM m t.toNat else execM p m t.toNat
theorem isMa_mv {p : Prog} {m : Machine} {t : Int} {dr : Bool} (hp : progOk p = true) (hm : isMa p m = true) (h : canMv p m t dr = true) : isMa p (mvM p m t dr) = true := by
  cases dr
  · exact isMa_exec (exOk_of hp hm h).2
  · exact isMa_drain hm (drOk_of hm h).2
end Go.Proofs.Gh.Gm
set_option linter.unusedVariables false
set_option linter.unusedSimpArgs false
set_option maxRecDepth 100000
set_option maxHeartbeats 2000000
namespace Go.Proofs.Gh.Gm
def tys_m7 : List (Nat × TI) := [(0, ⟨false, 0, [], [], .tuple [], false⟩),
  (3, ⟨false, 8, [.int .i64], [.int 0], .scalar, false⟩),
  (4, ⟨false, 1, [.bool], [.bool false], .scalar, false⟩),
  (36, ⟨false, 24, [.sl 3], [.sl true (some true) 3 []], .slice 75, false⟩),
  (38, ⟨true, 48, [.sl 1, .sl 3], [.sl true (some true) 1 [], .sl true (some true) 3 []], .struct [(0, 1, true), (1, 1, false)], false⟩),
  (41, ⟨false, 24, [.sl 1], [.sl true (some true) 1 []], .slice 76, false⟩),
  (43, ⟨true, 32, [.int .i64, .sl 1], [.int 0, .sl true (some true) 1 []], .struct [(0, 1, false), (1, 1, false)], false⟩),
  (46, ⟨true, 16, [.int .i64, .bool], [.int 0, .bool false], .struct [(0, 1, false), (1, 1, false)], true⟩),
  (75, ⟨true, 56, [.int .i64, .sl 1, .sl 2], [.int 0, .sl true (some true) 1 [], .sl true (some true) 2 []], .struct [(0, 1, false), (1, 1, false), (2, 1, false)], false⟩),
  (76, ⟨false, 24, [.sl 4], [.sl true (some true) 4 []], .slice 92, false⟩)]
theorem tys_m7_eq : tys_m7.map (fun x => tiOf Go.Proofs.Tryz.prog x.1 x.2.cks) = tys_m7.map fun x => some x.2 := by kernel_rfl
theorem bT_of {p : Prog} {m : Machine} (hp : progOk p = true) (h : isMa p m = true) : m.cells.length ≤ 1048576 ∧ bT m.ths := by
  obtain ⟨h1, h2, h3⟩ := isMa_bT hp h
  exact ⟨by omega, by omega, fun t ht => by have := h3 t ht; omega⟩
theorem bndT_of {l : List Thread} (h : bT l) : bndT l := ⟨by have := h.1; omega, fun t ht => by have := h.2 t ht; omega⟩
/-! imoved: loop.example/g00712/impl.moved -/
noncomputable def Qimoved : Fx := ⟨Go.Proofs.Tryz.f30, [.ro, .ro, .ro], false, mkEnv tys_m7 [(29, SiMachine_own), (61, SiMachine_drain), (62, SiMachine_execute)] [(61, [.bx [.sl 1, .sl 3]]), (62, [.bx [.sl 1, .sl 3]])], fun _ => .stop, []⟩
noncomputable def Fimoved : List S → Option Res := veil Qimoved.run
noncomputable def Simoved : Spec := ⟨[.ro, .ro, .ro], false, Fimoved⟩
theorem mimoved (x1 : Int) (x2 : List (List C)) (x3 : List (List C)) (x4 : List (List C)) (x5 : Int) (x6 : Bool) : Fimoved [.agg [.int x1, .sl false none 1 x2], .agg [.sl false none 1 x3, .sl false none 3 x4], .agg [.int x5, .bool x6]] = cV true [.sl 1, .sl 3] (FiMachine_own [.agg [.sl false none 1 x3, .sl false none 3 x4]]) fun o1 l1 o2 l2 => bif x6 then cOT [.bx [.sl 1, .sl 3]] [] (FiMachine_drain [.one (.bx [.sl true none 1 l1, .sl true none 3 l2]), .one (.int x5)]) fun o3 l3 o4 l4 => fr false 3 [.agg [.sl true none 1 l3, .sl true none 3 l4]] else cOT [.bx [.sl 1, .sl 3]] [] (FiMachine_execute [.one (.bx [.sl true none 1 l1, .sl true none 3 l2]), .agg [.int x1, .sl false none 1 x2], .one (.int x5)]) fun o5 l5 o6 l6 => fr false 3 [.agg [.sl true none 1 l5, .sl true none 3 l6]] := Fx.eq (by kernel_rfl)
theorem okimoved : CalleeOk Go.Proofs.Tryz.prog 30 Simoved := Fx.ok (F := Qimoved) follows (envTy_mk tys_m7_eq) (envSpec_of (specsOk_cons okiMachine_own (specsOk_cons okiMachine_drain (specsOk_cons okiMachine_execute specsOk_nil)))) Go.Proofs.Tryz.func30 (by kernel_rfl) (by kernel_rfl) (by rw [show subs Qimoved.code = [] by kernel_rfl]; trivial) (by kernel_rfl) (by kernel_rfl) rfl
theorem Fimoved_at (p : Prog) (m : Machine) (t : Int) (dr : Bool) (h : progOk p = true ∧ isMa p m = true ∧ canMv p m t dr = true) : Fimoved [S.agg (encProg false p), S.agg (encMa false m), S.agg [C.int t, C.bool dr]] = some (S.agg (encMa true (mvM p m t dr)), [S.one C.unk, S.one C.unk, S.one C.unk]) := by
  obtain ⟨h1, h2, h3⟩ := h
  rw [mimoved, FiMachine_own_at m (bT_of h1 h2)]
  cases dr
  · obtain ⟨h0, hx⟩ := exOk_of h1 h2 h3
    obtain ⟨n, rfl⟩ := Int.eq_ofNat_of_zero_le h0
    simp [FiMachine_execute_at p m n hx, mvM]
  · obtain ⟨h0, hx⟩ := drOk_of h2 h3
    obtain ⟨n, rfl⟩ := Int.eq_ofNat_of_zero_le h0
    simp [FiMachine_drain_at m n hx, mvM]
def canP (p : Prog) (m : Machine) (t : Int) (dr : Bool) : Bool := progOk p && isMa p m && canMv p m t dr
/-! iDoMove: loop.example/g00712/impl.DoMove -/
noncomputable def QiDoMove : Fx := ⟨Go.Proofs.Tryz.f11, [.ro, .ro, .ro], false, mkEnv tys_m7 [(28, SiCanMove), (29, SiMachine_own), (30, Simoved)] [], fun _ => .stop, []⟩
noncomputable def FiDoMove : List S → Option Res := veil QiDoMove.run
noncomputable def SiDoMove : Spec := ⟨[.ro, .ro, .ro], false, FiDoMove⟩
theorem miDoMove (x1 : Int) (x2 : List (List C)) (x3 : List (List C)) (x4 : List (List C)) (x5 : Int) (x6 : Bool) : FiDoMove [.agg [.int x1, .sl false none 1 x2], .agg [.sl false none 1 x3, .sl false none 3 x4], .agg [.int x5, .bool x6]] = cV false [.bool] (FiCanMove [.agg [.int x1, .sl false none 1 x2], .agg [.sl false none 1 x3, .sl false none 3 x4], .agg [.int x5, .bool x6]]) fun b1 => bif !b1 then cV true [.sl 1, .sl 3] (FiMachine_own [.agg [.sl false none 1 x3, .sl false none 3 x4]]) fun o1 l1 o2 l2 => fr false 3 [.agg [.sl true none 1 l1, .sl true none 3 l2], .one (.bool false)] else cV true [.sl 1, .sl 3] (Fimoved [.agg [.int x1, .sl false none 1 x2], .agg [.sl false none 1 x3, .sl false none 3 x4], .agg [.int x5, .bool x6]]) fun o3 l3 o4 l4 => fr false 3 [.agg [.sl true none 1 l3, .sl true none 3 l4], .one (.bool true)] := Fx.eq (by kernel_rfl)
theorem okiDoMove : CalleeOk Go.Proofs.Tryz.prog 11 SiDoMove := Fx.ok (F := QiDoMove) follows (envTy_mk tys_m7_eq) (envSpec_of (specsOk_cons okiCanMove (specsOk_cons okiMachine_own (specsOk_cons okimoved specsOk_nil)))) Go.Proofs.Tryz.func11 (by kernel_rfl) (by kernel_rfl) (by rw [show subs QiDoMove.code = [] by kernel_rfl]; trivial) (by kernel_rfl) (by kernel_rfl) rfl
theorem FiDoMove_at (p : Prog) (m : Machine) (t : Int) (dr : Bool) (h : bndL p.codes ∧ m.cells.length ≤ 1048576 ∧ bT m.ths) : FiDoMove [S.agg (encProg false p), S.agg (encMa false m), S.agg [C.int t, C.bool dr]] = some (S.tup [S.agg (encMa true (bif canP p m t dr then mvM p m t dr else m)), S.one (C.bool (canP p m t dr))], [S.one C.unk, S.one C.unk, S.one C.unk]) := by
  obtain ⟨h1, h2, h3⟩ := h
  rw [miDoMove, FiCanMove_at p m t dr ⟨h1, by omega, bndT_of h3, h3.1⟩, FiMachine_own_at m ⟨h2, h3⟩]
  cases hc : canP p m t dr
  · simp [show (progOk p && isMa p m && canMv p m t dr) = false from hc]
  · have hc' := hc
    simp only [canP, Bool.and_eq_true] at hc'
    simp [hc'.1.1, hc'.1.2, hc'.2, Fimoved_at p m t dr ⟨hc'.1.1, hc'.1.2, hc'.2⟩]
def running (p : Prog) (m : Machine) (t : Int) : Bool := inB t 0 ((m.ths.length : Int) - 1) && (match m.ths[t.toNat]?, p.codes[t.toNat]? with
  | some th, some c => decide (th.pc < c.length)
  | _, _ => false)
/-! iisRunning: loop.example/g00712/impl.isRunning -/
noncomputable def QiisRunning : Fx := ⟨Go.Proofs.Tryz.f43, [.ro, .ro, .ro], false, mkEnv tys_m7 [(77, Siwithin)] [], fun id => bif Nat.beq id 1 then .sq [0, 1, 2, 3, 4, 5, 6, 7, 8, 9, 10, 11, 12, 13, 14, 15, 16, 17, 18, 19, 20, 21] .stop else .stop, []⟩
noncomputable def FiisRunning : List S → Option Res := veil QiisRunning.run
noncomputable def SiisRunning : Spec := ⟨[.ro, .ro, .ro], false, FiisRunning⟩
theorem miisRunning (x1 : Int) (x2 : List (List C)) (x3 : List (List C)) (x4 : List (List C)) (x5 : Int) : FiisRunning [.agg [.int x1, .sl false none 1 x2], .agg [.sl false none 1 x3, .sl false none 3 x4], .one (.int x5)] = cV false [.bool] (Fiwithin [.one (.int x5), .one (.int 0), .one (.int (W ((x4.length : Int) - 1)))]) fun b1 => bif b1 then ix x5 x4 ((x4[Int.toNat x5]?).bind fun w1 => tRo [.int .i64] w1 fun n1 => ix x5 x2 ((x2[Int.toNat x5]?).bind fun w2 => tRo [.sl 4] w2 fun _ l1 => fr false 3 [.one (.bool (decide (n1 < (l1.length : Int))))])) else fr false 3 [.one (.bool false)] := Fx.eq (by kernel_rfl)
theorem okiisRunning : CalleeOk Go.Proofs.Tryz.prog 43 SiisRunning := Fx.ok (F := QiisRunning) follows (envTy_mk tys_m7_eq) (envSpec_of (specsOk_cons okiwithin specsOk_nil)) Go.Proofs.Tryz.func43 (by kernel_rfl) (by kernel_rfl) (by rw [show subs QiisRunning.code = [] by kernel_rfl]; trivial) (by kernel_rfl) (by kernel_rfl) rfl
theorem FiisRunning_at (p : Prog) (m : Machine) (t : Int) (h : isMa p m = true ∧ m.ths.length ≤ 1048576) : FiisRunning [S.agg (encProg false p), S.agg (encMa false m), S.one (C.int t)] = some (S.one (C.bool (running p m t)), [S.one C.unk, S.one C.unk, S.one C.unk]) := by
  obtain ⟨h1, h2⟩ := h
  have hw : W ((m.ths.length : Int) - 1) = (m.ths.length : Int) - 1 := W_eq (by omega) (by omega)
  rw [miisRunning]
  simp only [List.length_map, hw, Fiwithin_at, running]
  cases hi : inB t 0 ((m.ths.length : Int) - 1)
  · simp
  · have hi' := hi
    simp only [inB, Bool.and_eq_true, decide_eq_true_eq] at hi'
    obtain ⟨n, rfl⟩ := Int.eq_ofNat_of_zero_le hi'.1
    have hn : n < m.ths.length := by omega
    obtain ⟨hc, hth⟩ := isMa_th h1 hn
    simp [hn, hc]
theorem fold_cells {l : List Slot} : ∀ {c : List Int}, memOk c = true → (∀ s ∈ l, isV s.v = true) → memOk (l.foldl (fun c s => c.set s.a.toNat s.v) c) = true ∧ (l.foldl (fun c s => c.set s.a.toNat s.v) c).length = c.length := by
  induction l with
  | nil => intro c h _; exact ⟨h, rfl⟩
  | cons s l ih =>
    intro c h hs
    have := ih (c := c.set s.a.toNat s.v) (memOk_set h (hs s (by simp))) fun x hx => hs x (by simp [hx])
    exact ⟨this.1, by simpa using this.2⟩
theorem drAllOk_of {p : Prog} {m : Machine} {t : Nat} (hm : isMa p m = true) (ht : t < m.ths.length) : drAllOk m t ∧ isMa p (drainAllM m t) = true := by
  obtain ⟨hc, hth⟩ := isMa_th hm ht
  obtain ⟨hp, hv4, hvv, hbo, hbc⟩ := thOk_iff.1 hth
  obtain ⟨hmo, hml, _, _⟩ := isMa_iff.1 hm
  simp only [bufOk, slotOk, inB, Bool.and_eq_true, List.all_eq_true, decide_eq_true_eq] at hbo
  refine ⟨⟨_, List.getElem?_eq_getElem ht, by omega, fun s hs => ⟨(hbo.2 s hs).1.1, by have := hbc s hs; omega⟩⟩, ?_⟩
  obtain ⟨f1, f2⟩ := fold_cells (l := m.ths[t].buf) hmo fun s hs => (hbo.2 s hs).2
  have h5 := isMa_set hm (t := t) (th := { m.ths[t] with buf := [] }) fun _ => thOk_iff.2 ⟨hp, hv4, hvv, rfl, by simp⟩
  obtain ⟨q1, q2, q3, q4⟩ := isMa_iff.1 h5
  simp only [drainAllM, List.getElem?_eq_getElem ht]
  exact isMa_iff.2 ⟨f1, by simp only; omega, q3, q4⟩
def stepM (p : Prog) (m : Machine) (t : Nat) : Machine := drainAllM (execM p (drainAllM m t) t) t
theorem len_drainAll (m : Machine) (t : Nat) : (drainAllM m t).ths.length = m.ths.length := by
  unfold drainAllM
  split <;> simp
theorem exOk_step {p : Prog} {m : Machine} {t : Int} (hp : progOk p = true) (hm : isMa p m = true) (hr : running p m t = true) : 0 ≤ t ∧ t.toNat < m.ths.length ∧ exOk p (drainAllM m t.toNat) t.toNat := by
  simp only [running, inB, Bool.and_eq_true, decide_eq_true_eq] at hr
  obtain ⟨⟨h0, h1⟩, h2⟩ := hr
  have ht : t.toNat < m.ths.length := by omega
  obtain ⟨hc, hth⟩ := isMa_th hm ht
  rw [List.getElem?_eq_getElem ht, List.getElem?_eq_getElem hc] at h2
  simp only [decide_eq_true_eq] at h2
  have hpc := (thOk_iff.1 hth).1
  have hlt : m.ths[t.toNat].pc.toNat < p.codes[t.toNat].length := by omega
  refine ⟨h0, ht, hp, (drAllOk_of hm ht).2, p.codes[t.toNat][m.ths[t.toNat].pc.toNat], { m.ths[t.toNat] with buf := [] }, ?_, ?_, fun _ => by simp⟩
  · simp [instrAt, drainAllM, ht, hc, hlt]
  · simp [drainAllM, ht]
theorem step_ok {p : Prog} {m : Machine} {t : Int} (hp : progOk p = true) (hm : isMa p m = true) (hr : running p m t = true) :
    0 ≤ t ∧ drAllOk m t.toNat ∧ exOk p (drainAllM m t.toNat) t.toNat ∧ drAllOk (execM p (drainAllM m t.toNat) t.toNat) t.toNat ∧ isMa p (stepM p m t.toNat) = true := by
  obtain ⟨h0, ht, hx⟩ := exOk_step hp hm hr
  have h1 := isMa_exec hx
  have hl : t.toNat < (execM p (drainAllM m t.toNat) t.toNat).ths.length := by
    have h2 := (isMa_iff.1 h1).2.2.1
    have h3 := (isMa_iff.1 hm).2.2.1
    omega
  exact ⟨h0, (drAllOk_of hm ht).1, hx, (drAllOk_of h1 hl).1, (drAllOk_of h1 hl).2⟩
/-! istepped: loop.example/g00712/impl.stepped -/
noncomputable def Qistepped : Fx := ⟨Go.Proofs.Tryz.f44, [.ro, .ro, .ro], false, mkEnv tys_m7 [(29, SiMachine_own), (62, SiMachine_execute), (78, SiMachine_drainAll)] [(62, [.bx [.sl 1, .sl 3]]), (78, [.bx [.sl 1, .sl 3]])], fun _ => .stop, []⟩
noncomputable def Fistepped : List S → Option Res := veil Qistepped.run
noncomputable def Sistepped : Spec := ⟨[.ro, .ro, .ro], false, Fistepped⟩
theorem mistepped (x1 : Int) (x2 : List (List C)) (x3 : List (List C)) (x4 : List (List C)) (x5 : Int) : Fistepped [.agg [.int x1, .sl false none 1 x2], .agg [.sl false none 1 x3, .sl false none 3 x4], .one (.int x5)] = cV true [.sl 1, .sl 3] (FiMachine_own [.agg [.sl false none 1 x3, .sl false none 3 x4]]) fun o1 l1 o2 l2 => cOT [.bx [.sl 1, .sl 3]] [] (FiMachine_drainAll [.one (.bx [.sl true none 1 l1, .sl true none 3 l2]), .one (.int x5)]) fun o3 l3 o4 l4 => cOT [.bx [.sl 1, .sl 3]] [] (FiMachine_execute [.one (.bx [.sl true o3 1 l3, .sl true o4 3 l4]), .agg [.int x1, .sl false none 1 x2], .one (.int x5)]) fun o5 l5 o6 l6 => cOT [.bx [.sl 1, .sl 3]] [] (FiMachine_drainAll [.one (.bx [.sl true o5 1 l5, .sl true o6 3 l6]), .one (.int x5)]) fun o7 l7 o8 l8 => fr false 3 [.agg [.sl true none 1 l7, .sl true none 3 l8]] := Fx.eq (by kernel_rfl)
theorem okistepped : CalleeOk Go.Proofs.Tryz.prog 44 Sistepped := Fx.ok (F := Qistepped) follows (envTy_mk tys_m7_eq) (envSpec_of (specsOk_cons okiMachine_own (specsOk_cons okiMachine_execute (specsOk_cons okiMachine_drainAll specsOk_nil)))) Go.Proofs.Tryz.func44 (by kernel_rfl) (by kernel_rfl) (by rw [show subs Qistepped.code = [] by kernel_rfl]; trivial) (by kernel_rfl) (by kernel_rfl) rfl
theorem Fistepped_at (p : Prog) (m : Machine) (t : Int) (h : progOk p = true ∧ isMa p m = true ∧ running p m t = true) : Fistepped [S.agg (encProg false p), S.agg (encMa false m), S.one (C.int t)] = some (S.agg (encMa true (stepM p m t.toNat)), [S.one C.unk, S.one C.unk, S.one C.unk]) := by
  obtain ⟨h1, h2, h3⟩ := h
  obtain ⟨h0, d1, d2, d3, d4⟩ := step_ok h1 h2 h3
  obtain ⟨n, rfl⟩ := Int.eq_ofNat_of_zero_le h0
  simp only [Int.toNat_natCast] at d1 d2 d3 d4 ⊢
  rw [mistepped, FiMachine_own_at m (bT_of h1 h2)]
  simp [FiMachine_drainAll_at m n d1, FiMachine_execute_at p _ n d2, FiMachine_drainAll_at _ n d3, stepM]
def stepP (p : Prog) (m : Machine) (t : Int) : Bool := progOk p && isMa p m && running p m t
/-! iStepPlain: loop.example/g00712/impl.StepPlain -/
noncomputable def QiStepPlain : Fx := ⟨Go.Proofs.Tryz.f18, [.ro, .ro, .ro], false, mkEnv tys_m7 [(29, SiMachine_own), (42, SiMachineOk), (43, SiisRunning), (44, Sistepped)] [], fun _ => .stop, []⟩
noncomputable def FiStepPlain : List S → Option Res := veil QiStepPlain.run
noncomputable def SiStepPlain : Spec := ⟨[.ro, .ro, .ro], false, FiStepPlain⟩
theorem miStepPlain (x1 : Int) (x2 : List (List C)) (x3 : List (List C)) (x4 : List (List C)) (x5 : Int) : FiStepPlain [.agg [.int x1, .sl false none 1 x2], .agg [.sl false none 1 x3, .sl false none 3 x4], .one (.int x5)] = cV false [.bool] (FiMachineOk [.agg [.int x1, .sl false none 1 x2], .agg [.sl false none 1 x3, .sl false none 3 x4]]) fun b1 => bif !b1 then cV true [.sl 1, .sl 3] (FiMachine_own [.agg [.sl false none 1 x3, .sl false none 3 x4]]) fun o1 l1 o2 l2 => fr false 3 [.agg [.sl true none 1 l1, .sl true none 3 l2], .one (.bool false)] else cV false [.bool] (FiisRunning [.agg [.int x1, .sl false none 1 x2], .agg [.sl false none 1 x3, .sl false none 3 x4], .one (.int x5)]) fun b2 => bif !b2 then cV true [.sl 1, .sl 3] (FiMachine_own [.agg [.sl false none 1 x3, .sl false none 3 x4]]) fun o3 l3 o4 l4 => fr false 3 [.agg [.sl true none 1 l3, .sl true none 3 l4], .one (.bool false)] else cV true [.sl 1, .sl 3] (Fistepped [.agg [.int x1, .sl false none 1 x2], .agg [.sl false none 1 x3, .sl false none 3 x4], .one (.int x5)]) fun o5 l5 o6 l6 => fr false 3 [.agg [.sl true none 1 l5, .sl true none 3 l6], .one (.bool true)] := Fx.eq (by kernel_rfl)
theorem okiStepPlain : CalleeOk Go.Proofs.Tryz.prog 18 SiStepPlain := Fx.ok (F := QiStepPlain) follows (envTy_mk tys_m7_eq) (envSpec_of (specsOk_cons okiMachine_own (specsOk_cons okiMachineOk (specsOk_cons okiisRunning (specsOk_cons okistepped specsOk_nil))))) Go.Proofs.Tryz.func18 (by kernel_rfl) (by kernel_rfl) (by rw [show subs QiStepPlain.code = [] by kernel_rfl]; trivial) (by kernel_rfl) (by kernel_rfl) rfl
theorem FiStepPlain_at (p : Prog) (m : Machine) (t : Int) (h : bndL p.codes ∧ m.cells.length ≤ 1048576 ∧ bT m.ths) : FiStepPlain [S.agg (encProg false p), S.agg (encMa false m), S.one (C.int t)] = some (S.tup [S.agg (encMa true (bif stepP p m t then stepM p m t.toNat else m)), S.one (C.bool (stepP p m t))], [S.one C.unk, S.one C.unk, S.one C.unk]) := by
  obtain ⟨h1, h2, h3⟩ := h
  rw [miStepPlain, FiMachineOk_at p m ⟨h1, by omega, bndT_of h3⟩, FiMachine_own_at m ⟨h2, h3⟩]
  simp only [stepP]
  cases hp : progOk p
  · simp
  · cases hm : isMa p m
    · simp
    · rw [FiisRunning_at p m t ⟨hm, h3.1⟩]
      cases hr : running p m t
      · simp
      · simp [Fistepped_at p m t ⟨hp, hm, hr⟩]
def startM (p : Prog) : Machine := ⟨List.replicate p.cells.toNat 0, p.codes.map fun _ => ⟨0, [0, 0, 0, 0], []⟩⟩
theorem isMa_start {p : Prog} (hp : progOk p = true) : isMa p (startM p) = true := by
  simp only [progOk, inB, Bool.and_eq_true, decide_eq_true_eq] at hp
  refine isMa_iff.2 ⟨?_, by simp [startM]; omega, by simp [startM], fun i h1 h2 => ?_⟩
  · simp only [memOk, inB, startM, Bool.and_eq_true, decide_eq_true_eq, List.length_replicate, List.all_eq_true]
    refine ⟨by omega, fun x hx => ?_⟩
    rw [List.eq_of_mem_replicate hx]; rfl
  · simp only [startM, List.getElem_map]
    exact thOk_iff.2 ⟨⟨by simp, by simp⟩, rfl, by simp [isV, inB], rfl, by simp⟩
end Go.Proofs.Gh.Gm
set_option linter.unusedVariables false
set_option linter.unusedSimpArgs false
set_option maxRecDepth 100000
set_option maxHeartbeats 2000000
namespace Go.Proofs.Gh.Gm
def tys_m8 : List (Nat × TI) := []
theorem tys_m8_eq : tys_m8.map (fun x => tiOf Go.Proofs.Tryz.prog x.1 x.2.cks) = tys_m8.map fun x => some x.2 := by kernel_rfl
def runF (p : Prog) (a : Machine × Nat) (mv : Move) : Machine × Nat := bif canMv p a.1 mv.t mv.drain then (mvM p a.1 mv.t mv.drain, a.2 + 1) else a
def runM (p : Prog) (mvs : List Move) : Machine × Nat := bif !progOk p || decide (mvs.length > 300) then (⟨[], []⟩, 0) else mvs.foldl (runF p) (startM p, 0)
end Go.Proofs.Gh.Gm
set_option linter.unusedVariables false
set_option linter.unusedSimpArgs false
set_option maxRecDepth 100000
set_option maxHeartbeats 2000000
namespace Go.Proofs.Gh.Gm
def tys_m9 : List (Nat × TI) := [(3, ⟨false, 8, [.int .i64], [.int 0], .scalar, false⟩),
  (4, ⟨false, 1, [.bool], [.bool false], .scalar, false⟩),
  (25, ⟨false, 24, [.sl 1], [.sl true (some true) 1 []], .slice 3, false⟩),
  (35, ⟨true, 24, [.sl 1], [.sl true (some true) 1 []], .struct [(0, 1, false)], false⟩),
  (36, ⟨false, 24, [.sl 3], [.sl true (some true) 3 []], .slice 75, false⟩),
  (38, ⟨true, 48, [.sl 1, .sl 3], [.sl true (some true) 1 [], .sl true (some true) 3 []], .struct [(0, 1, true), (1, 1, false)], false⟩),
  (73, ⟨false, 24, [.sl 2], [.sl true (some true) 2 []], .slice 90, false⟩),
  (75, ⟨true, 56, [.int .i64, .sl 1, .sl 2], [.int 0, .sl true (some true) 1 [], .sl true (some true) 2 []], .struct [(0, 1, false), (1, 1, false), (2, 1, false)], false⟩),
  (90, ⟨true, 16, [.int .i64, .int .i64], [.int 0, .int 0], .struct [(0, 1, false), (1, 1, false)], true⟩),
  (92, ⟨true, 32, [.int .i64, .int .i64, .int .i64, .int .i64], [.int 0, .int 0, .int 0, .int 0], .struct [(0, 1, false), (1, 1, false), (2, 1, false), (3, 1, false)], true⟩)]
theorem tys_m9_eq : tys_m9.map (fun x => tiOf Go.Proofs.Tryz.prog x.1 x.2.cks) = tys_m9.map fun x => some x.2 := by kernel_rfl
/-! sMemOk: loop.example/g00712/spec.MemOk -/
@[reducible] def hsMemOk_4 : Sh := ⟨[.one (.o (.pl 0 0 [])), .one (.o (.i .i64))], [(false, [.o (.sl false 1)])]⟩
@[reducible] def xsMemOk_4 : List (Ex × Sh) := [(.ret, ⟨[.one (.o .b)], [(false, [.o (.sl false 1)])]⟩), (.exit 0, ⟨[.one (.o .u)], [(false, [.o (.sl false 1)])]⟩)]
noncomputable def RsMemOk_4 : KC xsMemOk_4 (hsMemOk_4.K → hsMemOk_4.K) := fun k0 k1 nx v1 v2 v3 => bif decide (v1 < (v3.length : Int)) then ix v1 v3 ((v3[Int.toNat v1]?).bind fun w1 => tRo [.int .i64] w1 fun n1 => cV false [.bool] (Fsl01Value [.one (.int n1)]) fun b2 => bif !b2 then k0 false v2 v3 else nx (W (v1 + 1)) v2 v3) else k1 v2 v3
noncomputable def LsMemOk_4 : Lp := ⟨4, [1, 3], [2], 1, 23, hsMemOk_4, xsMemOk_4, RsMemOk_4⟩
noncomputable def QsMemOk : Fx := ⟨Go.Proofs.Tryz.f72, [.ro], false, mkEnv tys_m9 [(40, Ssl01In), (74, Ssl01Value)] [], fun _ => .stop, [LsMemOk_4]⟩
noncomputable def FsMemOk : List S → Option Res := veil QsMemOk.run
noncomputable def SsMemOk : Spec := ⟨[.ro], false, FsMemOk⟩
theorem msMemOk (x1 : List (List C)) : FsMemOk [.agg [.sl false none 1 x1]] = cV false [.bool] (Fsl01In [.one (.int (x1.length : Int)), .one (.int 1), .one (.int 16)]) fun b1 => bif !b1 then fr false 1 [.one (.bool false)] else iterC (RsMemOk_4 (fun y1 y2 y3 => fr false 1 [.one (.bool y1)]) (fun y4 y5 => fr false 1 [.one (.bool true)])) FUEL 0 none x1 := Fx.eq (by kernel_rfl)
theorem stsMemOk_4 : LsMemOk_4.Step QsMemOk.E QsMemOk.dr QsMemOk.lp ((findLoop 4 QsMemOk.code).getD .skip) := fun k nx v => by kernel_rfl
theorem oksMemOk : CalleeOk Go.Proofs.Tryz.prog 72 SsMemOk := Fx.ok (F := QsMemOk) follows (envTy_mk tys_m9_eq) (envSpec_of (specsOk_cons oksl01In (specsOk_cons oksl01Value specsOk_nil))) Go.Proofs.Tryz.func72 (by kernel_rfl) (by kernel_rfl) (by
  rw [show subs QsMemOk.code = [(findLoop 4 QsMemOk.code).getD .skip] by kernel_rfl]
  exact ⟨stepAt_some (by kernel_rfl) stsMemOk_4, trivial⟩) (by kernel_rfl) (by kernel_rfl) rfl
theorem FsMemOk_at (l : List Int) (h : smallL l) : FsMemOk [S.agg [C.sl false none 1 (l.map encInt)]] = some (S.one (C.bool (memOk l)), [S.one C.unk]) := by
  rw [msMemOk, Fsl01In_at]
  simp only [List.length_map, memOk]
  cases inB (l.length : Int) 1 16
  · simp
  · simp only [cV, Option.bind_some, tOne, tRes, id, tOwn, Bool.not_true, cond_false, Bool.true_and]
    refine (iter_all (h := hsMemOk_4) l (fun i f => f (i : Int) none (l.map encInt)) isV (fr false 1 [.one (.bool true)]) (fr false 1 [.one (.bool false)]) (by omega) ?_ ?_).trans ?_
    · intro nx; simp [RsMemOk_4]
    · intro nx i hi hW
      simp [RsMemOk_4, hi, hW, Fsl01Value_at]
      try (cases isV l[i] <;> simp)
    · cases l.all isV <;> simp
/-! sBufOk: loop.example/g00712/spec.BufOk -/
@[reducible] def hsBufOk_4 : Sh := ⟨[.one (.o (.sl false 2)), .one (.o (.i .i64))], []⟩
@[reducible] def xsBufOk_4 : List (Ex × Sh) := [(.ret, ⟨[.one (.o .b)], []⟩), (.exit 0, ⟨[.one (.o .u)], []⟩)]
noncomputable def RsBufOk_4 : KC xsBufOk_4 (hsBufOk_4.K → hsBufOk_4.K) := fun k0 k1 nx v1 v2 v3 => bif decide (v3 < (v2.length : Int)) then ix v3 v2 ((v2[Int.toNat v3]?).bind fun w1 => tRo [.int .i64] w1 fun n1 => cV false [.bool] (Fsl01In [.one (.int n1), .one (.int 0), .one (.int 15)]) fun b1 => bif !b1 then k0 false else ix v3 v2 ((v2[Int.toNat v3]?).bind fun w2 => tRo [.int .i64] (List.drop 1 w2) fun n2 => cV false [.bool] (Fsl01Value [.one (.int n2)]) fun b2 => bif !b2 then k0 false else nx v1 v2 (W (v3 + 1)))) else k1
noncomputable def LsBufOk_4 : Lp := ⟨4, [0, 3], [2], 0, 29, hsBufOk_4, xsBufOk_4, RsBufOk_4⟩
noncomputable def QsBufOk : Fx := ⟨Go.Proofs.Tryz.f73, [.ro], false, mkEnv tys_m9 [(40, Ssl01In), (74, Ssl01Value)] [], fun _ => .stop, [LsBufOk_4]⟩
noncomputable def FsBufOk : List S → Option Res := veil QsBufOk.run
noncomputable def SsBufOk : Spec := ⟨[.ro], false, FsBufOk⟩
theorem msBufOk (x1 : Option Bool) (x2 : List (List C)) : FsBufOk [.one (.sl false x1 2 x2)] = bif decide ((x2.length : Int) > 3) then fr false 1 [.one (.bool false)] else iterC (RsBufOk_4 (fun y1 => fr false 1 [.one (.bool y1)]) (fr false 1 [.one (.bool true)])) FUEL x1 x2 0 := Fx.eq (by kernel_rfl)
theorem stsBufOk_4 : LsBufOk_4.Step QsBufOk.E QsBufOk.dr QsBufOk.lp ((findLoop 4 QsBufOk.code).getD .skip) := fun k nx v => by kernel_rfl
theorem oksBufOk : CalleeOk Go.Proofs.Tryz.prog 73 SsBufOk := Fx.ok (F := QsBufOk) follows (envTy_mk tys_m9_eq) (envSpec_of (specsOk_cons oksl01In (specsOk_cons oksl01Value specsOk_nil))) Go.Proofs.Tryz.func73 (by kernel_rfl) (by kernel_rfl) (by
  rw [show subs QsBufOk.code = [(findLoop 4 QsBufOk.code).getD .skip] by kernel_rfl]
  exact ⟨stepAt_some (by kernel_rfl) stsBufOk_4, trivial⟩) (by kernel_rfl) (by kernel_rfl) rfl
theorem FsBufOk_at (nl : Option Bool) (b : List Slot) (h : smallL b) : FsBufOk [S.one (C.sl false nl 2 (b.map encSlot))] = some (S.one (C.bool (bufOk b)), [S.one C.unk]) := by
  rw [msBufOk]
  simp only [bufOk]
  by_cases hl : b.length ≤ 3
  · have hl' : ¬ ((b.map encSlot).length : Int) > 3 := by simp; omega
    simp only [hl, hl', decide_true, decide_false, cond_false, Bool.true_and]
    refine (iter_all (h := hsBufOk_4) b (fun i f => f nl (b.map encSlot) (i : Int)) slotOk (fr false 1 [.one (.bool true)]) (fr false 1 [.one (.bool false)]) (by omega) ?_ ?_).trans ?_
    · intro nx; simp [RsBufOk_4]
    · intro nx i hi hW
      simp [RsBufOk_4, hi, hW, Fsl01Value_at, Fsl01In_at, slotOk]
      cases inB b[i].a 0 15 <;> simp
      try (cases isV b[i].v <;> simp)
    · cases b.all slotOk <;> simp
  · have hl' : (3 : Int) < (b.length : Int) := by omega
    simp [hl, hl']
/-! sHasFence: loop.example/g00712/spec.HasFence -/
noncomputable def QsHasFence : Fx := ⟨Go.Proofs.Tryz.f80, [.ro], false, mkEnv tys_m9 [] [], fun _ => .stop, []⟩
noncomputable def FsHasFence : List S → Option Res := veil QsHasFence.run
noncomputable def SsHasFence : Spec := ⟨[.ro], false, FsHasFence⟩
theorem msHasFence (x1 : Int) (x2 : Int) (x3 : Int) (x4 : Int) : FsHasFence [.agg [.int x1, .int x2, .int x3, .int x4]] = bif x1 == 4 then fr false 1 [.one (.bool true)] else bif x1 == 5 then fr false 1 [.one (.bool true)] else fr false 1 [.one (.bool (x1 == 7))] := Fx.eq (by kernel_rfl)
theorem oksHasFence : CalleeOk Go.Proofs.Tryz.prog 80 SsHasFence := Fx.ok (F := QsHasFence) follows (envTy_mk tys_m9_eq) (envSpec_of (specsOk_nil)) Go.Proofs.Tryz.func80 (by kernel_rfl) (by kernel_rfl) (by rw [show subs QsHasFence.code = [] by kernel_rfl]; trivial) (by kernel_rfl) (by kernel_rfl) rfl
theorem FsHasFence_at (i : Instr) : FsHasFence [S.agg (encInstr i)] = some (S.one (C.bool (fenceI i)), [S.one C.unk]) := by
  simp only [msHasFence, fenceI]
  cases (i.op == 4) <;> cases (i.op == 5) <;> simp
/-! sl01Copy: loop.example/g00712/spec.l01Copy -/
@[reducible] def hsl01Copy_3 : Sh := ⟨[.one (.o (.sl false 1)), .one (.o (.al 2 0 [])), .one (.o (.i .i64))], [(true, [.o .u]), (true, [.o .u]), (true, [.o (.sl true 1)])]⟩
@[reducible] def xsl01Copy_3 : List (Ex × Sh) := [(.exit 0, ⟨[.one (.o (.al 2 0 []))], [(true, [.o .u]), (true, [.o .u]), (true, [.o (.sl true 1)])]⟩)]
noncomputable def Rsl01Copy_3 : KC xsl01Copy_3 (hsl01Copy_3.K → hsl01Copy_3.K) := fun k0 nx v1 v2 v3 v4 v5 => bif decide (v3 < (v2.length : Int)) then ix v3 v2 ((v2[Int.toNat v3]?).bind fun w1 => tRo [.int .i64] w1 fun n1 => if (v5.length + 1) * 8 ≤ LIM then nx v1 v2 (W (v3 + 1)) (apNl v4 [[]]) (v5 ++ [[.int n1]]) else none) else k0 v4 v5
noncomputable def Lsl01Copy_3 : Lp := ⟨3, [0, 3, 4], [3], 2, 20, hsl01Copy_3, xsl01Copy_3, Rsl01Copy_3⟩
noncomputable def Qsl01Copy : Fx := ⟨Go.Proofs.Tryz.f50, [.ro], false, mkEnv tys_m9 [] [], fun _ => .stop, [Lsl01Copy_3]⟩
noncomputable def Fsl01Copy : List S → Option Res := veil Qsl01Copy.run
noncomputable def Ssl01Copy : Spec := ⟨[.ro], false, Fsl01Copy⟩
theorem msl01Copy (x1 : Option Bool) (x2 : List (List C)) : Fsl01Copy [.one (.sl false x1 1 x2)] = iterC (Rsl01Copy_3 (fun y1 y2 => fr false 1 [.one (.sl true y1 1 y2)])) FUEL x1 x2 0 (some false) [] := Fx.eq (by kernel_rfl)
theorem stsl01Copy_3 : Lsl01Copy_3.Step Qsl01Copy.E Qsl01Copy.dr Qsl01Copy.lp ((findLoop 3 Qsl01Copy.code).getD .skip) := fun k nx v => by kernel_rfl
theorem oksl01Copy : CalleeOk Go.Proofs.Tryz.prog 50 Ssl01Copy := Fx.ok (F := Qsl01Copy) follows (envTy_mk tys_m9_eq) (envSpec_of (specsOk_nil)) Go.Proofs.Tryz.func50 (by kernel_rfl) (by kernel_rfl) (by
  rw [show subs Qsl01Copy.code = [(findLoop 3 Qsl01Copy.code).getD .skip] by kernel_rfl]
  exact ⟨stepAt_some (by kernel_rfl) stsl01Copy_3, trivial⟩) (by kernel_rfl) (by kernel_rfl) rfl
theorem Fsl01Copy_at (nl : Option Bool) (l : List Int) (h : l.length ≤ 1048576) : Fsl01Copy [S.one (C.sl false nl 1 (l.map encInt))] = some (S.one (C.sl true (some false) 1 (l.map encInt)), [S.one C.unk]) := by
  rw [msl01Copy]
  refine (iter_fold (h := hsl01Copy_3) l (fun i (a : List Int) f => f nl (l.map encInt) (i : Int) (some false) (a.map encInt)) (fun a x => a ++ [x]) (fun a => fr false 1 [.one (.sl true (some false) 1 (a.map encInt))]) (fun i a => a.length = i) (by omega) ?_ ?_ [] rfl).trans ?_
  · intro nx a ha; simp [Rsl01Copy_3]
  · intro nx i a hi ha hW
    refine ⟨by simp [ha], ?_⟩
    have hL : (a.length + 1) * 8 ≤ LIM := by unfold LIM; omega
    simp [Rsl01Copy_3, hi, hW, hL, apNl]
  · rw [foldl_snoc]; simp
/-! sl03Copy: loop.example/g00712/spec.l03Copy -/
@[reducible] def hsl03Copy_3 : Sh := ⟨[.one (.o (.sl false 2)), .one (.o (.al 2 0 [])), .one (.o (.i .i64))], [(true, [.o .u]), (true, [.o .u]), (true, [.o (.sl true 2)])]⟩
@[reducible] def xsl03Copy_3 : List (Ex × Sh) := [(.exit 0, ⟨[.one (.o (.al 2 0 []))], [(true, [.o .u]), (true, [.o .u]), (true, [.o (.sl true 2)])]⟩)]
noncomputable def Rsl03Copy_3 : KC xsl03Copy_3 (hsl03Copy_3.K → hsl03Copy_3.K) := fun k0 nx v1 v2 v3 v4 v5 => bif decide (v3 < (v2.length : Int)) then ix v3 v2 ((v2[Int.toNat v3]?).bind fun w1 => tRo [.int .i64, .int .i64] w1 fun n1 n2 => if (v5.length + 1) * 16 ≤ LIM then nx v1 v2 (W (v3 + 1)) (apNl v4 [[]]) (v5 ++ [[.int n1, .int n2]]) else none) else k0 v4 v5
noncomputable def Lsl03Copy_3 : Lp := ⟨3, [0, 3, 4], [3], 2, 20, hsl03Copy_3, xsl03Copy_3, Rsl03Copy_3⟩
noncomputable def Qsl03Copy : Fx := ⟨Go.Proofs.Tryz.f51, [.ro], false, mkEnv tys_m9 [] [], fun _ => .stop, [Lsl03Copy_3]⟩
noncomputable def Fsl03Copy : List S → Option Res := veil Qsl03Copy.run
noncomputable def Ssl03Copy : Spec := ⟨[.ro], false, Fsl03Copy⟩
theorem msl03Copy (x1 : Option Bool) (x2 : List (List C)) : Fsl03Copy [.one (.sl false x1 2 x2)] = iterC (Rsl03Copy_3 (fun y1 y2 => fr false 1 [.one (.sl true y1 2 y2)])) FUEL x1 x2 0 (some false) [] := Fx.eq (by kernel_rfl)
theorem stsl03Copy_3 : Lsl03Copy_3.Step Qsl03Copy.E Qsl03Copy.dr Qsl03Copy.lp ((findLoop 3 Qsl03Copy.code).getD .skip) := fun k nx v => by kernel_rfl
theorem oksl03Copy : CalleeOk Go.Proofs.Tryz.prog 51 Ssl03Copy := Fx.ok (F := Qsl03Copy) follows (envTy_mk tys_m9_eq) (envSpec_of (specsOk_nil)) Go.Proofs.Tryz.func51 (by kernel_rfl) (by kernel_rfl) (by
  rw [show subs Qsl03Copy.code = [(findLoop 3 Qsl03Copy.code).getD .skip] by kernel_rfl]
  exact ⟨stepAt_some (by kernel_rfl) stsl03Copy_3, trivial⟩) (by kernel_rfl) (by kernel_rfl) rfl
theorem Fsl03Copy_at (nl : Option Bool) (b : List Slot) (h : b.length ≤ 1048576) : Fsl03Copy [S.one (C.sl false nl 2 (b.map encSlot))] = some (S.one (C.sl true (some false) 2 (b.map encSlot)), [S.one C.unk]) := by
  rw [msl03Copy]
  refine (iter_fold (h := hsl03Copy_3) b (fun i (a : List Slot) f => f nl (b.map encSlot) (i : Int) (some false) (a.map encSlot)) (fun a x => a ++ [x]) (fun a => fr false 1 [.one (.sl true (some false) 2 (a.map encSlot))]) (fun i a => a.length = i) (by omega) ?_ ?_ [] rfl).trans ?_
  · intro nx a ha; simp [Rsl03Copy_3]
  · intro nx i a hi ha hW
    refine ⟨by simp [ha], ?_⟩
    have hL : (a.length + 1) * 16 ≤ LIM := by unfold LIM; omega
    simp [Rsl03Copy_3, hi, hW, hL, apNl]
  · rw [foldl_snoc]; simp
/-! sl03Mem: loop.example/g00712/spec.l03Mem -/
noncomputable def Qsl03Mem : Fx := ⟨Go.Proofs.Tryz.f49, [.ro], false, mkEnv tys_m9 [(50, Ssl01Copy)] [], fun _ => .stop, []⟩
noncomputable def Fsl03Mem : List S → Option Res := veil Qsl03Mem.run
noncomputable def Ssl03Mem : Spec := ⟨[.ro], false, Fsl03Mem⟩
theorem msl03Mem (x1 : List (List C)) : Fsl03Mem [.agg [.sl false none 1 x1]] = cV false [.sl 1] (Fsl01Copy [.one (.sl false none 1 x1)]) fun o1 l1 => fr false 1 [.agg [.sl true none 1 l1]] := Fx.eq (by kernel_rfl)
theorem oksl03Mem : CalleeOk Go.Proofs.Tryz.prog 49 Ssl03Mem := Fx.ok (F := Qsl03Mem) follows (envTy_mk tys_m9_eq) (envSpec_of (specsOk_cons oksl01Copy specsOk_nil)) Go.Proofs.Tryz.func49 (by kernel_rfl) (by kernel_rfl) (by rw [show subs Qsl03Mem.code = [] by kernel_rfl]; trivial) (by kernel_rfl) (by kernel_rfl) rfl
theorem Fsl03Mem_at (l : List Int) (h : l.length ≤ 1048576) : Fsl03Mem [S.agg [C.sl false none 1 (l.map encInt)]] = some (S.agg [C.sl true none 1 (l.map encInt)], [S.one C.unk]) := by
  rw [msl03Mem, Fsl01Copy_at _ _ h]
  simp
/-! sl04Copy: loop.example/g00712/spec.l04Copy -/
@[reducible] def hsl04Copy_3 : Sh := ⟨[.one (.o (.pl 0 0 [])), .one (.o (.pl 1 0 [])), .one (.o (.pl 4 0 [])), .one (.o (.i .i64))], [(false, [.o (.sl false 1), .o (.sl false 3)]), (false, [.o (.sl true 1), .o (.sl true 3)]), (true, [.o .u]), (true, [.o .u]), (false, [.o (.sl true 1), .o (.sl true 3)])]⟩
@[reducible] def xsl04Copy_3 : List (Ex × Sh) := [(.exit 0, ⟨[.one (.o (.pl 1 0 [])), .one (.o (.pl 4 0 []))], [(false, [.o (.sl false 1), .o (.sl false 3)]), (false, [.o (.sl true 1), .o (.sl true 3)]), (true, [.o .u]), (true, [.o .u]), (false, [.o (.sl true 1), .o (.sl true 3)])]⟩)]
noncomputable def Rsl04Copy_3 : KC xsl04Copy_3 (hsl04Copy_3.K → hsl04Copy_3.K) := fun k0 nx v1 v2 v3 v4 v5 v6 v7 v8 v9 v10 v11 v12 v13 => bif decide (v1 < (v5.length : Int)) then ix v1 v5 ((v5[Int.toNat v1]?).bind fun w1 => tRo [.int .i64] w1 fun n1 => ix v1 v5 ((v5[Int.toNat v1]?).bind fun w2 => tRo [.sl 1] (List.drop 1 w2) fun _ l2 => ix v1 v5 ((v5[Int.toNat v1]?).bind fun w3 => tRo [.sl 2] (List.drop 2 w3) fun _ l3 => cV false [.sl 1] (Fsl01Copy [.one (.sl false none 1 l2)]) fun o2 l4 => cV false [.sl 2] (Fsl03Copy [.one (.sl false none 2 l3)]) fun o3 l5 => if (v13.length + 1) * 56 ≤ LIM then nx (W (v1 + 1)) v2 v3 v4 v5 v6 v7 v8 v9 v10 v11 none (v13 ++ [[.int n1, .sl true none 1 l4, .sl true none 2 l5]]) else none))) else k0 v2 v3 v4 v5 v6 v7 v8 v9 v10 v11 v12 v13
noncomputable def Lsl04Copy_3 : Lp := ⟨3, [1, 2, 3, 4], [2, 3], 5, 43, hsl04Copy_3, xsl04Copy_3, Rsl04Copy_3⟩
noncomputable def Qsl04Copy : Fx := ⟨Go.Proofs.Tryz.f23, [.ro], false, mkEnv tys_m9 [(49, Ssl03Mem), (50, Ssl01Copy), (51, Ssl03Copy)] [], fun id => bif Nat.beq id 5 then .sq [0, 1, 2, 3, 4, 5, 6, 7, 8, 9, 10, 11, 12, 13, 15, 16, 17, 18, 19, 20, 14, 21, 22, 23, 24, 25, 26] .stop else .stop, [Lsl04Copy_3]⟩
noncomputable def Fsl04Copy : List S → Option Res := veil Qsl04Copy.run
noncomputable def Ssl04Copy : Spec := ⟨[.ro], false, Fsl04Copy⟩
theorem msl04Copy (x1 : List (List C)) (x2 : List (List C)) : Fsl04Copy [.agg [.sl false none 1 x1, .sl false none 3 x2]] = cV true [.sl 1] (Fsl03Mem [.agg [.sl false none 1 x1]]) fun o1 l1 => iterC (Rsl04Copy_3 (fun y1 y2 y3 y4 y5 y6 y7 y8 y9 y10 y11 y12 => fr false 1 [.agg [.sl true none 1 y10, .sl true none 3 y12]])) FUEL 0 none x1 none x2 (some true) [] (some true) [] none l1 none [] := Fx.eq (by kernel_rfl)
theorem stsl04Copy_3 : Lsl04Copy_3.Step Qsl04Copy.E Qsl04Copy.dr Qsl04Copy.lp ((findLoop 3 Qsl04Copy.code).getD .skip) := fun k nx v => by kernel_rfl
theorem oksl04Copy : CalleeOk Go.Proofs.Tryz.prog 23 Ssl04Copy := Fx.ok (F := Qsl04Copy) follows (envTy_mk tys_m9_eq) (envSpec_of (specsOk_cons oksl03Mem (specsOk_cons oksl01Copy (specsOk_cons oksl03Copy specsOk_nil)))) Go.Proofs.Tryz.func23 (by kernel_rfl) (by kernel_rfl) (by
  rw [show subs Qsl04Copy.code = [(findLoop 3 Qsl04Copy.code).getD .skip] by kernel_rfl]
  exact ⟨stepAt_some (by kernel_rfl) stsl04Copy_3, trivial⟩) (by kernel_rfl) (by kernel_rfl) rfl
theorem Fsl04Copy_at (m : Machine) (h : m.cells.length ≤ 1048576 ∧ bT m.ths) : Fsl04Copy [S.agg (encMa false m)] = some (S.agg (encMa true m), [S.one C.unk]) := by
  obtain ⟨cells, ths⟩ := m
  obtain ⟨h1, h2, h3⟩ := h
  simp only at h1 h2 h3
  rw [msl04Copy, Fsl03Mem_at _ h1]
  simp only [cV, Option.bind_some, tOne, tOwn, tRes, id]
  refine (iter_fold (h := hsl04Copy_3) ths (fun i (a : List Thread) f => f (i : Int) none (cells.map encInt) none (ths.map (encTh false)) (some true) [] (some true) [] none (cells.map encInt) none (a.map (encTh true))) (fun a t => a ++ [t]) (fun a => fr false 1 [.agg (encMa true ⟨cells, a⟩)]) (fun i a => a.length = i) (by omega) ?_ ?_ [] rfl).trans ?_
  · intro nx a ha; simp [Rsl04Copy_3]
  · intro nx i a hi ha hW
    have ht := h3 _ (List.getElem_mem hi)
    refine ⟨by simp [ha], ?_⟩
    have hL : (a.length + 1) * 56 ≤ LIM := by unfold LIM; omega
    simp [Rsl04Copy_3, hi, hW, Fsl01Copy_at _ _ ht.1, Fsl03Copy_at _ _ ht.2, hL]
  · rw [foldl_snoc]; simp
/-! sClamp: loop.example/g00712/spec.Clamp -/
noncomputable def QsClamp : Fx := ⟨Go.Proofs.Tryz.f52, [.ro], false, mkEnv tys_m9 [] [], fun _ => .stop, []⟩
noncomputable def FsClamp : List S → Option Res := veil QsClamp.run
noncomputable def SsClamp : Spec := ⟨[.ro], false, FsClamp⟩
theorem msClamp (x1 : Int) : FsClamp [.one (.int x1)] = bif decide (x1 > 1000000) then fr false 1 [.one (.int 1000000)] else bif decide (x1 < (-1000000)) then fr false 1 [.one (.int (-1000000))] else fr false 1 [.one (.int x1)] := Fx.eq (by kernel_rfl)
theorem oksClamp : CalleeOk Go.Proofs.Tryz.prog 52 SsClamp := Fx.ok (F := QsClamp) follows (envTy_mk tys_m9_eq) (envSpec_of (specsOk_nil)) Go.Proofs.Tryz.func52 (by kernel_rfl) (by kernel_rfl) (by rw [show subs QsClamp.code = [] by kernel_rfl]; trivial) (by kernel_rfl) (by kernel_rfl) rfl
theorem FsClamp_at (n : Int) : FsClamp [S.one (C.int n)] = some (S.one (C.int (clamp n)), [S.one C.unk]) := by
  rw [msClamp]
  have e : clamp n = if n > 1000000 then 1000000 else if n < -1000000 then -1000000 else n := by
    unfold clamp
    by_cases h1 : -1000000 < n <;> by_cases h2 : n < 1000000 <;> simp [h1, h2] <;> omega
  rw [e]
  by_cases h1 : n > 1000000 <;> by_cases h2 : n < -1000000 <;> simp [h1, h2]
/-! sPeek: loop.example/g00712/spec.Peek -/
noncomputable def QsPeek : Fx := ⟨Go.Proofs.Tryz.f81, [.ro, .ro], false, mkEnv tys_m9 [(40, Ssl01In), (72, SsMemOk)] [], fun _ => .stop, []⟩
noncomputable def FsPeek : List S → Option Res := veil QsPeek.run
noncomputable def SsPeek : Spec := ⟨[.ro, .ro], false, FsPeek⟩
theorem msPeek (x1 : List (List C)) (x2 : Int) : FsPeek [.agg [.sl false none 1 x1], .one (.int x2)] = cV false [.bool] (FsMemOk [.agg [.sl false none 1 x1]]) fun b1 => bif !b1 then fr false 2 [.one (.int 0)] else cV false [.bool] (Fsl01In [.one (.int x2), .one (.int 0), .one (.int (W ((x1.length : Int) - 1)))]) fun b2 => bif !b2 then fr false 2 [.one (.int 0)] else ix x2 x1 ((x1[Int.toNat x2]?).bind fun w1 => tRo [.int .i64] w1 fun n1 => fr false 2 [.one (.int n1)]) := Fx.eq (by kernel_rfl)
theorem oksPeek : CalleeOk Go.Proofs.Tryz.prog 81 SsPeek := Fx.ok (F := QsPeek) follows (envTy_mk tys_m9_eq) (envSpec_of (specsOk_cons oksl01In (specsOk_cons oksMemOk specsOk_nil))) Go.Proofs.Tryz.func81 (by kernel_rfl) (by kernel_rfl) (by rw [show subs QsPeek.code = [] by kernel_rfl]; trivial) (by kernel_rfl) (by kernel_rfl) rfl
theorem FsPeek_at (l : List Int) (a : Int) (h : l.length ≤ 1048576 ∧ memOk l = true ∧ 0 ≤ a ∧ a < l.length) : FsPeek [S.agg [C.sl false none 1 (l.map encInt)], S.one (C.int a)] = some (S.one (C.int (l[a.toNat]?.getD 0)), [S.one C.unk, S.one C.unk]) := by
  obtain ⟨h1, h2, h3, h4⟩ := h
  obtain ⟨n, rfl⟩ := Int.eq_ofNat_of_zero_le h3
  have hn : n < l.length := by omega
  have hw : W ((l.length : Int) - 1) = (l.length : Int) - 1 := W_eq (by omega) (by omega)
  have e : inB (n : Int) 0 ((l.length : Int) - 1) = true := by simp [inB]; omega
  simp [msPeek, FsMemOk_at _ (show smallL l by omega), Fsl01In_at, h2, e, hn, hw]
end Go.Proofs.Gh.Gm
