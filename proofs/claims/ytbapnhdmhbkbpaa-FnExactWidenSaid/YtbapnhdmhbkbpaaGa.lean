/- The program's functions by the ghost evaluator: what each computes, and that it does. -/
import Derived.Test.YtbapnhdmhbkbpaaGh43
import Derived.Test.YtbapnhdmhbkbpaaProg
import Derived.KernelRfl
set_option linter.unusedVariables false
set_option linter.unusedSimpArgs false
set_option maxRecDepth 100000
namespace Go.Proofs.Gh.Gm
theorem follows : Go.Proofs.Try.prog.follows .mixedOrders = true := by kernel_rfl
def tys : List (Nat × TI) := [(3, ⟨false, 8, [.int .i64], [C.int 0], .scalar, false⟩),
  (4, ⟨false, 1, [.bool], [C.bool false], .scalar, false⟩),
  (22, ⟨false, 24, [.sl 5], [C.sl true (some true) 5 []], .slice 60, false⟩),
  (25, ⟨false, 24, [.sl 5], [C.sl true (some true) 5 []], .slice 56, false⟩),
  (56, ⟨true, 40, [.bool, .int .i64, .int .i64, .int .i64, .int .i64], [C.bool false, C.int 0, C.int 0, C.int 0, C.int 0], .struct [(0, 1, false), (1, 1, false), (2, 1, false), (3, 1, false), (4, 1, false)], true⟩),
  (57, ⟨false, 8, [.other], [C.v Value.nilFunc], .scalar, false⟩),
  (60, ⟨true, 40, [.bool, .int .i64, .int .i64, .int .i64, .int .i64], [C.bool false, C.int 0, C.int 0, C.int 0, C.int 0], .struct [(0, 1, false), (1, 1, false), (2, 1, false), (3, 1, false), (4, 1, false)], true⟩)]
theorem tys_eq : tys.map (fun x => tiOf Go.Proofs.Try.prog x.1 x.2.cks) = tys.map fun x => some x.2 := by kernel_rfl
@[ext] structure Call where
  push : Bool
  v : Int
  ret : Int
  frm : Int
  to : Int
deriving DecidableEq
abbrev encCall (c : Call) : List C := [C.bool c.push, C.int c.v, C.int c.ret, C.int c.frm, C.int c.to]
@[simp] theorem encCall_inj {l l' : List Call} : l.map encCall = l'.map encCall ↔ l = l' := map_inj' (fun a b h => by simp at h; exact Call.ext_iff.2 h)
@[simp] theorem encCall_free (l : List Call) : rowsFree (l.map encCall) = true := rowsFree_map fun _ _ => rfl
@[simp] theorem encCall_freeze (l : List Call) : freezeRows (l.map encCall) = l.map encCall := freezeRows_map fun _ _ => rfl
def inB (n a b : Int) : Bool := decide (a ≤ n) && decide (n ≤ b)
def callOk (c : Call) : Bool := inB c.v 0 1000000 && inB c.ret (-1) 1000000 && decide (0 ≤ c.frm) && decide (c.frm ≤ c.to) && decide (c.to ≤ 1000000) && (bif c.push then c.ret == 0 else c.v == 0)
theorem callOk_alt (c : Call) : callOk c = ((bif c.push then (inB c.v 0 1000000 && c.ret == 0) else (c.v == 0 && inB c.ret (-1) 1000000)) && inB c.to 0 1000000 && inB c.frm 0 c.to) := by
  rw [Bool.eq_iff_iff]
  cases h : c.push <;> simp only [callOk, inB, h, cond_true, cond_false, Bool.and_eq_true, decide_eq_true_eq, beq_iff_eq] <;> omega
def fine (calls : List Call) : Bool := decide (calls.length ≤ 7) && calls.all callOk
/-! function 48: loop.example/g00712/spec.l01In -/
noncomputable def c48 : Code := (Go.Proofs.Try.f48.body).getD .skip
noncomputable def E48 : Env := mkEnv tys [] []
def dr48 : Nat → OT := fun _ => .stop
noncomputable def lp48 (_ : Nat) : Nat → St → Kx → Option Res := fun _ _ _ => none
noncomputable def m48 (m : Nat) (x1 : Int) (x2 : Int) (x3 : Int) : Option Res := bif decide (x2 ≤ x1) then some (S.one (C.bool (decide (x1 ≤ x3))), [S.one (C.unk), S.one (C.unk), S.one (C.unk)]) else some (S.one (C.bool false), [S.one (C.unk), S.one (C.unk), S.one (C.unk)])
theorem m48_eq (m : Nat) (x1 : Int) (x2 : Int) (x3 : Int) : funcL E48 dr48 (lp48 m) false [.ro, .ro, .ro] c48 Go.Proofs.Try.f48.ntmps Go.Proofs.Try.f48.results.toList [S.one (C.int x1), S.one (C.int x2), S.one (C.int x3)] = m48 m x1 x2 x3 := by
  unfold m48
  kernel_rfl
theorem es48 : EnvSpec Go.Proofs.Try.prog E48 := envSpec_of (specsOk_nil)
theorem et48 : EnvTy Go.Proofs.Try.prog E48 := envTy_mk tys_eq
theorem lps48 (m : Nat) : LoopsOk Go.Proofs.Try.prog (lp48 m) c48 := loopsOk_of c48 (by rw [show loopsOf c48 = [] by kernel_rfl]; intro b hb; cases hb)
def in48 (n : Int) (a : Int) (b : Int) : List S := [S.one (C.int n), S.one (C.int a), S.one (C.int b)]
noncomputable def out48 (n : Int) (a : Int) (b : Int) : Res := (S.one (C.bool (inB n a b)), [S.one C.unk, S.one C.unk, S.one C.unk])
def pre48 (n : Int) (a : Int) (b : Int) : Prop := True
noncomputable def F48 : List S → Option Res := told (A := Int × Int × Int) (fun a => in48 a.1 a.2.1 a.2.2) (fun a => pre48 a.1 a.2.1 a.2.2) (fun a => out48 a.1 a.2.1 a.2.2)
theorem F48_at (n : Int) (a : Int) (b : Int) : F48 [S.one (C.int n), S.one (C.int a), S.one (C.int b)] = some (S.one (C.bool (inB n a b)), [S.one C.unk, S.one C.unk, S.one C.unk]) := told_at (A := Int × Int × Int) (enc := fun a => in48 a.1 a.2.1 a.2.2) (pre := fun a => pre48 a.1 a.2.1 a.2.2) (out := fun a => out48 a.1 a.2.1 a.2.2) (a := (n, a, b)) (by
  intro a b h
  first | (simp [in48] at h; simp [out48, h]; done) | (simp [in48] at h; simp only [← Call.ext_iff] at h; simp [out48, h]; done)) trivial
theorem plain48 (n : Int) (a : Int) (b : Int) (h : True) : ∃ m, m48 m n a b = some (S.one (C.bool (inB n a b)), [S.one C.unk, S.one C.unk, S.one C.unk]) := by
  refine ⟨0, ?_⟩
  by_cases h1 : a ≤ n <;> simp [m48, inB, h1]
noncomputable def S48 : Spec := ⟨[.ro, .ro, .ro], false, F48⟩
theorem ok48 : SpecOk Go.Proofs.Try.prog 48 S48 := funcL_ok follows et48 es48 Go.Proofs.Try.func48 (c := c48) (by kernel_rfl) (dr := dr48) (by kernel_rfl) (by
  intro xs r hl h
  obtain ⟨a, ha, rfl, rfl⟩ := told_some h
  obtain ⟨m, hm⟩ := plain48 a.1 a.2.1 a.2.2 ha
  exact ⟨lp48 m, lps48 m, (m48_eq m _ _ _).trans hm⟩)
theorem go48 : CalleeOk Go.Proofs.Try.prog 48 S48 := ⟨ok48, _, Go.Proofs.Try.func48, by kernel_rfl, by kernel_rfl⟩
/-! function 64: loop.example/g00712/spec.CallOk -/
noncomputable def c64 : Code := (Go.Proofs.Try.f64.body).getD .skip
noncomputable def E64 : Env := mkEnv tys [(48, S48)] []
def dr64 : Nat → OT := fun _ => .stop
noncomputable def lp64 (_ : Nat) : Nat → St → Kx → Option Res := fun _ _ _ => none
noncomputable def m64 (m : Nat) (x1 : Bool) (x2 : Int) (x3 : Int) (x4 : Int) (x5 : Int) : Option Res := (F48 [S.one (C.int x2), S.one (C.int 0), S.one (C.int 1000000)]).bind fun r1 => (S.cells? false r1.1).bind fun cs1 => if cs1.length = 1 then (List.head? cs1).bind fun c1 => (C.asBool c1).bind fun b1 => bif !b1 then some (S.one (C.bool false), [S.one (C.unk)]) else (F48 [S.one (C.int x3), S.one (C.int (-1)), S.one (C.int 1000000)]).bind fun r2 => (S.cells? false r2.1).bind fun cs2 => if cs2.length = 1 then (List.head? cs2).bind fun c2 => (C.asBool c2).bind fun b2 => bif !b2 then some (S.one (C.bool false), [S.one (C.unk)]) else bif decide (x4 < 0) then some (S.one (C.bool false), [S.one (C.unk)]) else bif decide (x5 < x4) then some (S.one (C.bool false), [S.one (C.unk)]) else bif decide (x5 > 1000000) then some (S.one (C.bool false), [S.one (C.unk)]) else bif x1 then some (S.one (C.bool (x3 == 0)), [S.one (C.unk)]) else some (S.one (C.bool (x2 == 0)), [S.one (C.unk)]) else none else none
theorem m64_eq (m : Nat) (x1 : Bool) (x2 : Int) (x3 : Int) (x4 : Int) (x5 : Int) : funcL E64 dr64 (lp64 m) false [.ro] c64 Go.Proofs.Try.f64.ntmps Go.Proofs.Try.f64.results.toList [S.agg [C.bool x1, C.int x2, C.int x3, C.int x4, C.int x5]] = m64 m x1 x2 x3 x4 x5 := by
  unfold m64
  kernel_rfl
theorem es64 : EnvSpec Go.Proofs.Try.prog E64 := envSpec_of (specsOk_cons go48 specsOk_nil)
theorem et64 : EnvTy Go.Proofs.Try.prog E64 := envTy_mk tys_eq
theorem lps64 (m : Nat) : LoopsOk Go.Proofs.Try.prog (lp64 m) c64 := loopsOk_of c64 (by rw [show loopsOf c64 = [] by kernel_rfl]; intro b hb; cases hb)
def in64 (c : Call) : List S := [S.agg (encCall c)]
noncomputable def out64 (c : Call) : Res := (S.one (C.bool (callOk c)), [S.one C.unk])
def pre64 (c : Call) : Prop := True
noncomputable def F64 : List S → Option Res := told (A := Call) (fun a => in64 a) (fun a => pre64 a) (fun a => out64 a)
theorem F64_at (c : Call) : F64 [S.agg (encCall c)] = some (S.one (C.bool (callOk c)), [S.one C.unk]) := told_at (A := Call) (enc := fun a => in64 a) (pre := fun a => pre64 a) (out := fun a => out64 a) (a := (c)) (by
  intro a b h
  first | (simp [in64] at h; simp [out64, h]; done) | (simp [in64] at h; simp only [← Call.ext_iff] at h; simp [out64, h]; done)) trivial
theorem plain64 (c : Call) (h : True) : ∃ m, m64 m c.push c.v c.ret c.frm c.to = some (S.one (C.bool (callOk c)), [S.one C.unk]) := by
  refine ⟨0, ?_⟩
  simp only [m64, F48_at, cells?_one, asBool_bool, Option.bind_some, List.length_cons, List.length_nil, List.head?_cons, if_true]
  obtain ⟨p, v, r, f, t⟩ := c
  simp only [callOk]
  cases inB v 0 1000000 <;> cases inB r (-1) 1000000 <;> cases p <;> grind
noncomputable def S64 : Spec := ⟨[.ro], false, F64⟩
theorem ok64 : SpecOk Go.Proofs.Try.prog 64 S64 := funcL_ok follows et64 es64 Go.Proofs.Try.func64 (c := c64) (by kernel_rfl) (dr := dr64) (by kernel_rfl) (by
  intro xs r hl h
  obtain ⟨a, ha, rfl, rfl⟩ := told_some h
  obtain ⟨m, hm⟩ := plain64 a ha
  exact ⟨lp64 m, lps64 m, (m64_eq m _ _ _ _ _).trans hm⟩)
theorem go64 : CalleeOk Go.Proofs.Try.prog 64 S64 := ⟨ok64, _, Go.Proofs.Try.func64, by kernel_rfl, by kernel_rfl⟩
/-! function 42: loop.example/g00712/spec.l16Fine -/
noncomputable def c42 : Code := (Go.Proofs.Try.f42.body).getD .skip
noncomputable def E42 : Env := mkEnv tys [(64, S64)] []
def dr42 : Nat → OT := fun _ => .stop
noncomputable def b42_4 : Code := (findLoop 4 c42).getD .skip
noncomputable def L42_4 (m : Nat) (k0 : Bool → Option Res) (k1 : Option Res) (nx : (Option Bool) → (List (List C)) → Int → Option Res) (v1 : Option Bool) (v2 : List (List C)) (v3 : Int) : Option Res := bif decide (v3 < (v2.length : Int)) then if 0 ≤ v3 ∧ v3 < (v2.length : Int) then (v2[Int.toNat v3]?).bind fun w1 => (List.head? w1).bind fun c1 => (C.asBool c1).bind fun b1 => (List.head? (List.tail w1)).bind fun c2 => (C.asInt .i64 c2).bind fun n1 => (List.head? (List.tail (List.tail w1))).bind fun c3 => (C.asInt .i64 c3).bind fun n2 => (List.head? (List.tail (List.tail (List.tail w1)))).bind fun c4 => (C.asInt .i64 c4).bind fun n3 => (List.head? (List.tail (List.tail (List.tail (List.tail w1))))).bind fun c5 => (C.asInt .i64 c5).bind fun n4 => (F64 [S.agg [C.bool b1, C.int n1, C.int n2, C.int n3, C.int n4]]).bind fun r1 => (S.cells? false r1.1).bind fun cs1 => if cs1.length = 1 then (List.head? cs1).bind fun c6 => (C.asBool c6).bind fun b2 => bif !b2 then k0 false else nx v1 v2 (W (v3 + 1)) else none else none else k1
noncomputable def R42_4 (m : Nat) (k0 : Bool → Option Res) (k1 : Option Res) (nx : ((Option Bool) × (List (List C)) × Int) → Option Res) (v : (Option Bool) × (List (List C)) × Int) : Option Res := L42_4 m k0 k1 (fun v1 v2 v3 => nx (v1, v2, v3)) v.1 v.2.1 v.2.2
noncomputable def T42_4 (m : Nat) (k0 : Bool → Option Res) (k1 : Option Res) (j : Nat) (v1 : Option Bool) (v2 : List (List C)) (v3 : Int) : Option Res := iterL (R42_4 m k0 k1) j (v1, v2, v3)
def X42_4_0 (y1 : Bool) : St := headOf 19 [2] ([S.one (C.bool y1)], [])
def X42_4_1 : St := headOf 19 [2] ([S.one (C.unk)], [])
noncomputable def D42_4 (m : Nat) (k : Kx) (ss : List S) (bs : List Box) : Option Res :=
  match ss, bs with
  | [S.one (C.sl false v1 5 v2), S.one (C.v (.int .i64 v3))], [] => T42_4 m (fun y1 => k (.ret) (X42_4_0 y1)) (k (.exit 0) X42_4_1) m v1 v2 v3
  | _, _ => none
def H42_4 (v : (Option Bool) × (List (List C)) × Int) : List S × List Box := (fun (v1 : Option Bool) (v2 : List (List C)) (v3 : Int) => ([S.one (C.sl false v1 5 v2), S.one (C.int v3)], [])) v.1 v.2.1 v.2.2
noncomputable def lp42 (m : Nat) : Nat → St → Kx → Option Res := fun id σ k => bif Nat.beq id 4 then hand [0, 3] 0 19 (D42_4 m k) σ else none
noncomputable def m42 (m : Nat) (x1 : Option Bool) (x2 : List (List C)) : Option Res := bif decide ((x2.length : Int) > 7) then some (S.one (C.bool false), [S.one (C.unk)]) else T42_4 m (fun y1 => some (S.one (C.bool y1), [S.one (C.unk)])) (some (S.one (C.bool true), [S.one (C.unk)])) m x1 x2 0
theorem m42_eq (m : Nat) (x1 : Option Bool) (x2 : List (List C)) : funcL E42 dr42 (lp42 m) false [.ro] c42 Go.Proofs.Try.f42.ntmps Go.Proofs.Try.f42.results.toList [S.one (C.sl false x1 5 x2)] = m42 m x1 x2 := by
  unfold m42
  kernel_rfl
theorem st42_4 (m : Nat) (k : Kx) (Kn : St → Option Res) (v : (Option Bool) × (List (List C)) × Int) : codeL E42 dr42 (lp42 m) b42_4 (headOf 19 [0, 3] (H42_4 v)) (fun e σ' => match e with | .normal => forgetK [0, 3] 0 σ' Kn | e => k e (σ'.only [2])) = R42_4 m (fun y1 => k (.ret) (X42_4_0 y1)) (k (.exit 0) X42_4_1) (fun v' => Kn (headOf 19 [0, 3] (H42_4 v'))) v := by
  unfold R42_4 L42_4
  kernel_rfl
theorem es42 : EnvSpec Go.Proofs.Try.prog E42 := envSpec_of (specsOk_cons go64 specsOk_nil)
theorem et42 : EnvTy Go.Proofs.Try.prog E42 := envTy_mk tys_eq
theorem lok42_4 (m : Nat) : LoopOk Go.Proofs.Try.prog b42_4 (lp42 m (firstRegion b42_4)) := loop_ok (dr := dr42) (lp := lp42 m) (kp := [0, 3]) (lv := [2]) follows et42 es42 (by kernel_rfl) (loopsOk_of b42_4 (by
  rw [show loopsOf b42_4 = [] by kernel_rfl]
  intro b hb
  cases hb)) (by
  intro σ k r h
  have h' : hand [0, 3] 0 19 (D42_4 m k) σ = some r := h
  refine hand_ok (V := (Option Bool) × (List (List C)) × Int) (enc := H42_4) (fb := fun k => R42_4 m (fun y1 => k (.ret) (X42_4_0 y1)) (k (.exit 0) X42_4_1)) ?_ (fun k Kn v => st42_4 m k Kn v) σ k r h'
  intro k ss bs r h
  unfold D42_4 at h
  split at h
  · exact ⟨(_, _, _), m, rfl, h⟩
  · cases h)
theorem lps42 (m : Nat) : LoopsOk Go.Proofs.Try.prog (lp42 m) c42 := loopsOk_of c42 (by
  rw [show loopsOf c42 = [b42_4] by kernel_rfl]
  intro b hb
  simp only [List.mem_cons, List.not_mem_nil, or_false] at hb
  rcases hb with rfl
  · exact lok42_4 m)
def in42 (nl : Option Bool) (calls : List Call) : List S := [S.one (C.sl false nl 5 (calls.map encCall))]
noncomputable def out42 (nl : Option Bool) (calls : List Call) : Res := (S.one (C.bool (fine calls)), [S.one C.unk])
def pre42 (nl : Option Bool) (calls : List Call) : Prop := True
noncomputable def F42 : List S → Option Res := told (A := (Option Bool) × (List Call)) (fun a => in42 a.1 a.2) (fun a => pre42 a.1 a.2) (fun a => out42 a.1 a.2)
theorem F42_at (nl : Option Bool) (calls : List Call) : F42 [S.one (C.sl false nl 5 (calls.map encCall))] = some (S.one (C.bool (fine calls)), [S.one C.unk]) := told_at (A := (Option Bool) × (List Call)) (enc := fun a => in42 a.1 a.2) (pre := fun a => pre42 a.1 a.2) (out := fun a => out42 a.1 a.2) (a := (nl, calls)) (by
  intro a b h
  first | (simp [in42] at h; simp [out42, h]; done) | (simp [in42] at h; simp only [← Call.ext_iff] at h; simp [out42, h]; done)) trivial
theorem plain42 (nl : Option Bool) (calls : List Call) (h : True) : ∃ m, m42 m nl (calls.map encCall) = some (S.one (C.bool (fine calls)), [S.one C.unk]) := by
  refine ⟨8, ?_⟩
  simp only [m42, List.length_map]
  by_cases h7 : calls.length ≤ 7
  · rw [show decide ((calls.length : Int) > 7) = false by simp; omega]
    have key : ∀ (rest pre : List Call) (j : Nat), rest.length < j → pre.length + rest.length ≤ 7 → T42_4 8 (fun y1 => some (S.one (C.bool y1), [S.one C.unk])) (some (S.one (C.bool true), [S.one C.unk])) j nl ((pre ++ rest).map encCall) (pre.length : Int) = some (S.one (C.bool (rest.all callOk)), [S.one C.unk]) := by
      intro rest
      induction rest with
      | nil =>
        intro pre j hj _
        obtain ⟨j, rfl⟩ : ∃ k, j = k + 1 := ⟨j - 1, by omega⟩
        simp [T42_4, iterL, R42_4, L42_4]
      | cons c rest ih =>
        intro pre j hj hl
        obtain ⟨j, rfl⟩ : ∃ k, j = k + 1 := ⟨j - 1, by omega⟩
        simp only [List.length_cons] at hj hl
        have ih' := ih (pre ++ [c]) j (by omega) (by simp; omega)
        simp only [T42_4, iterL, R42_4, L42_4] at ih' ⊢
        simp only [List.append_assoc, List.singleton_append, List.length_append, List.length_cons, List.length_nil, Nat.zero_add] at ih'
        rw [← W_succ (by omega)] at ih'
        simp [F64_at]
        cases hc : callOk c with
        | false => simp
        | true => simpa using ih'
    have := key calls [] 8 (by omega) (by simp; omega)
    simpa [fine, h7] using this
  · rw [show decide ((calls.length : Int) > 7) = true by simp; omega]
    simp [fine, h7]
noncomputable def S42 : Spec := ⟨[.ro], false, F42⟩
theorem ok42 : SpecOk Go.Proofs.Try.prog 42 S42 := funcL_ok follows et42 es42 Go.Proofs.Try.func42 (c := c42) (by kernel_rfl) (dr := dr42) (by kernel_rfl) (by
  intro xs r hl h
  obtain ⟨a, ha, rfl, rfl⟩ := told_some h
  obtain ⟨m, hm⟩ := plain42 a.1 a.2 ha
  exact ⟨lp42 m, lps42 m, (m42_eq m _ _).trans hm⟩)
theorem go42 : CalleeOk Go.Proofs.Try.prog 42 S42 := ⟨ok42, _, Go.Proofs.Try.func42, by kernel_rfl, by kernel_rfl⟩
/-! function 49: loop.example/g00712/impl.within -/
noncomputable def c49 : Code := (Go.Proofs.Try.f49.body).getD .skip
noncomputable def E49 : Env := mkEnv tys [] []
def dr49 : Nat → OT := fun _ => .stop
noncomputable def lp49 (_ : Nat) : Nat → St → Kx → Option Res := fun _ _ _ => none
noncomputable def m49 (m : Nat) (x1 : Int) (x2 : Int) (x3 : Int) : Option Res := bif decide (x1 ≥ x2) then some (S.one (C.bool (decide (x1 ≤ x3))), [S.one (C.unk), S.one (C.unk), S.one (C.unk)]) else some (S.one (C.bool false), [S.one (C.unk), S.one (C.unk), S.one (C.unk)])
theorem m49_eq (m : Nat) (x1 : Int) (x2 : Int) (x3 : Int) : funcL E49 dr49 (lp49 m) false [.ro, .ro, .ro] c49 Go.Proofs.Try.f49.ntmps Go.Proofs.Try.f49.results.toList [S.one (C.int x1), S.one (C.int x2), S.one (C.int x3)] = m49 m x1 x2 x3 := by
  unfold m49
  kernel_rfl
theorem es49 : EnvSpec Go.Proofs.Try.prog E49 := envSpec_of (specsOk_nil)
theorem et49 : EnvTy Go.Proofs.Try.prog E49 := envTy_mk tys_eq
theorem lps49 (m : Nat) : LoopsOk Go.Proofs.Try.prog (lp49 m) c49 := loopsOk_of c49 (by rw [show loopsOf c49 = [] by kernel_rfl]; intro b hb; cases hb)
def in49 (n : Int) (a : Int) (b : Int) : List S := [S.one (C.int n), S.one (C.int a), S.one (C.int b)]
noncomputable def out49 (n : Int) (a : Int) (b : Int) : Res := (S.one (C.bool (inB n a b)), [S.one C.unk, S.one C.unk, S.one C.unk])
def pre49 (n : Int) (a : Int) (b : Int) : Prop := True
noncomputable def F49 : List S → Option Res := told (A := Int × Int × Int) (fun a => in49 a.1 a.2.1 a.2.2) (fun a => pre49 a.1 a.2.1 a.2.2) (fun a => out49 a.1 a.2.1 a.2.2)
theorem F49_at (n : Int) (a : Int) (b : Int) : F49 [S.one (C.int n), S.one (C.int a), S.one (C.int b)] = some (S.one (C.bool (inB n a b)), [S.one C.unk, S.one C.unk, S.one C.unk]) := told_at (A := Int × Int × Int) (enc := fun a => in49 a.1 a.2.1 a.2.2) (pre := fun a => pre49 a.1 a.2.1 a.2.2) (out := fun a => out49 a.1 a.2.1 a.2.2) (a := (n, a, b)) (by
  intro a b h
  first | (simp [in49] at h; simp [out49, h]; done) | (simp [in49] at h; simp only [← Call.ext_iff] at h; simp [out49, h]; done)) trivial
theorem plain49 (n : Int) (a : Int) (b : Int) (h : True) : ∃ m, m49 m n a b = some (S.one (C.bool (inB n a b)), [S.one C.unk, S.one C.unk, S.one C.unk]) := by
  refine ⟨0, ?_⟩
  by_cases h1 : a ≤ n <;> simp [m49, inB, h1]
noncomputable def S49 : Spec := ⟨[.ro, .ro, .ro], false, F49⟩
theorem ok49 : SpecOk Go.Proofs.Try.prog 49 S49 := funcL_ok follows et49 es49 Go.Proofs.Try.func49 (c := c49) (by kernel_rfl) (dr := dr49) (by kernel_rfl) (by
  intro xs r hl h
  obtain ⟨a, ha, rfl, rfl⟩ := told_some h
  obtain ⟨m, hm⟩ := plain49 a.1 a.2.1 a.2.2 ha
  exact ⟨lp49 m, lps49 m, (m49_eq m _ _ _).trans hm⟩)
theorem go49 : CalleeOk Go.Proofs.Try.prog 49 S49 := ⟨ok49, _, Go.Proofs.Try.func49, by kernel_rfl, by kernel_rfl⟩
/-! function 41: loop.example/g00712/impl.CallOk -/
noncomputable def c41 : Code := (Go.Proofs.Try.f41.body).getD .skip
noncomputable def E41 : Env := mkEnv tys [(49, S49)] []
def dr41 : Nat → OT := fun _ => .stop
noncomputable def lp41 (_ : Nat) : Nat → St → Kx → Option Res := fun _ _ _ => none
noncomputable def m41 (m : Nat) (x1 : Bool) (x2 : Int) (x3 : Int) (x4 : Int) (x5 : Int) : Option Res := bif x1 then (F49 [S.one (C.int x2), S.one (C.int 0), S.one (C.int 1000000)]).bind fun r1 => (S.cells? false r1.1).bind fun cs1 => if cs1.length = 1 then (List.head? cs1).bind fun c1 => (C.asBool c1).bind fun b1 => bif !b1 then some (S.one (C.bool false), [S.one (C.unk)]) else bif x3 != 0 then some (S.one (C.bool false), [S.one (C.unk)]) else bif !x1 then bif x2 != 0 then some (S.one (C.bool false), [S.one (C.unk)]) else (F49 [S.one (C.int x3), S.one (C.int (-1)), S.one (C.int 1000000)]).bind fun r2 => (S.cells? false r2.1).bind fun cs2 => if cs2.length = 1 then (List.head? cs2).bind fun c2 => (C.asBool c2).bind fun b2 => bif !b2 then some (S.one (C.bool false), [S.one (C.unk)]) else (F49 [S.one (C.int x5), S.one (C.int 0), S.one (C.int 1000000)]).bind fun r3 => (S.cells? false r3.1).bind fun cs3 => if cs3.length = 1 then (List.head? cs3).bind fun c3 => (C.asBool c3).bind fun b3 => bif b3 then (F49 [S.one (C.int x4), S.one (C.int 0), S.one (C.int x5)]).bind fun r4 => (S.cells? false r4.1).bind fun cs4 => if cs4.length = 1 then (List.head? cs4).bind fun c4 => (C.asBool c4).bind fun b4 => some (S.one (C.bool b4), [S.one (C.unk)]) else none else some (S.one (C.bool false), [S.one (C.unk)]) else none else none else (F49 [S.one (C.int x5), S.one (C.int 0), S.one (C.int 1000000)]).bind fun r5 => (S.cells? false r5.1).bind fun cs5 => if cs5.length = 1 then (List.head? cs5).bind fun c5 => (C.asBool c5).bind fun b5 => bif b5 then (F49 [S.one (C.int x4), S.one (C.int 0), S.one (C.int x5)]).bind fun r6 => (S.cells? false r6.1).bind fun cs6 => if cs6.length = 1 then (List.head? cs6).bind fun c6 => (C.asBool c6).bind fun b6 => some (S.one (C.bool b6), [S.one (C.unk)]) else none else some (S.one (C.bool false), [S.one (C.unk)]) else none else none else bif !x1 then bif x2 != 0 then some (S.one (C.bool false), [S.one (C.unk)]) else (F49 [S.one (C.int x3), S.one (C.int (-1)), S.one (C.int 1000000)]).bind fun r7 => (S.cells? false r7.1).bind fun cs7 => if cs7.length = 1 then (List.head? cs7).bind fun c7 => (C.asBool c7).bind fun b7 => bif !b7 then some (S.one (C.bool false), [S.one (C.unk)]) else (F49 [S.one (C.int x5), S.one (C.int 0), S.one (C.int 1000000)]).bind fun r8 => (S.cells? false r8.1).bind fun cs8 => if cs8.length = 1 then (List.head? cs8).bind fun c8 => (C.asBool c8).bind fun b8 => bif b8 then (F49 [S.one (C.int x4), S.one (C.int 0), S.one (C.int x5)]).bind fun r9 => (S.cells? false r9.1).bind fun cs9 => if cs9.length = 1 then (List.head? cs9).bind fun c9 => (C.asBool c9).bind fun b9 => some (S.one (C.bool b9), [S.one (C.unk)]) else none else some (S.one (C.bool false), [S.one (C.unk)]) else none else none else (F49 [S.one (C.int x5), S.one (C.int 0), S.one (C.int 1000000)]).bind fun r10 => (S.cells? false r10.1).bind fun cs10 => if cs10.length = 1 then (List.head? cs10).bind fun c10 => (C.asBool c10).bind fun b10 => bif b10 then (F49 [S.one (C.int x4), S.one (C.int 0), S.one (C.int x5)]).bind fun r11 => (S.cells? false r11.1).bind fun cs11 => if cs11.length = 1 then (List.head? cs11).bind fun c11 => (C.asBool c11).bind fun b11 => some (S.one (C.bool b11), [S.one (C.unk)]) else none else some (S.one (C.bool false), [S.one (C.unk)]) else none
theorem m41_eq (m : Nat) (x1 : Bool) (x2 : Int) (x3 : Int) (x4 : Int) (x5 : Int) : funcL E41 dr41 (lp41 m) false [.ro] c41 Go.Proofs.Try.f41.ntmps Go.Proofs.Try.f41.results.toList [S.agg [C.bool x1, C.int x2, C.int x3, C.int x4, C.int x5]] = m41 m x1 x2 x3 x4 x5 := by
  unfold m41
  kernel_rfl
theorem es41 : EnvSpec Go.Proofs.Try.prog E41 := envSpec_of (specsOk_cons go49 specsOk_nil)
theorem et41 : EnvTy Go.Proofs.Try.prog E41 := envTy_mk tys_eq
theorem lps41 (m : Nat) : LoopsOk Go.Proofs.Try.prog (lp41 m) c41 := loopsOk_of c41 (by rw [show loopsOf c41 = [] by kernel_rfl]; intro b hb; cases hb)
def in41 (c : Call) : List S := [S.agg (encCall c)]
noncomputable def out41 (c : Call) : Res := (S.one (C.bool (callOk c)), [S.one C.unk])
def pre41 (c : Call) : Prop := True
noncomputable def F41 : List S → Option Res := told (A := Call) (fun a => in41 a) (fun a => pre41 a) (fun a => out41 a)
theorem F41_at (c : Call) : F41 [S.agg (encCall c)] = some (S.one (C.bool (callOk c)), [S.one C.unk]) := told_at (A := Call) (enc := fun a => in41 a) (pre := fun a => pre41 a) (out := fun a => out41 a) (a := (c)) (by
  intro a b h
  first | (simp [in41] at h; simp [out41, h]; done) | (simp [in41] at h; simp only [← Call.ext_iff] at h; simp [out41, h]; done)) trivial
theorem plain41 (c : Call) (h : True) : ∃ m, m41 m c.push c.v c.ret c.frm c.to = some (S.one (C.bool (callOk c)), [S.one C.unk]) := by
  refine ⟨0, ?_⟩
  obtain ⟨p, v, r, f, t⟩ := c
  simp only [m41, F49_at, cells?_one, asBool_bool, Option.bind_some, List.length_cons, List.length_nil, List.head?_cons, if_true]
  rw [callOk_alt]
  simp only [bne]
  cases p <;> cases hv : (v == 0) <;> cases hr : (r == 0) <;> cases inB v 0 1000000 <;> cases inB r (-1) 1000000 <;> cases inB t 0 1000000 <;> cases inB f 0 t <;> simp
noncomputable def S41 : Spec := ⟨[.ro], false, F41⟩
theorem ok41 : SpecOk Go.Proofs.Try.prog 41 S41 := funcL_ok follows et41 es41 Go.Proofs.Try.func41 (c := c41) (by kernel_rfl) (dr := dr41) (by kernel_rfl) (by
  intro xs r hl h
  obtain ⟨a, ha, rfl, rfl⟩ := told_some h
  obtain ⟨m, hm⟩ := plain41 a ha
  exact ⟨lp41 m, lps41 m, (m41_eq m _ _ _ _ _).trans hm⟩)
theorem go41 : CalleeOk Go.Proofs.Try.prog 41 S41 := ⟨ok41, _, Go.Proofs.Try.func41, by kernel_rfl, by kernel_rfl⟩
/-! function 66: loop.example/g00712/impl.areCalls$1 -/
noncomputable def c66 : Code := (Go.Proofs.Try.f66.body).getD .skip
noncomputable def E66 : Env := mkEnv tys [(41, S41)] []
def dr66 : Nat → OT := fun _ => .stop
noncomputable def lp66 (_ : Nat) : Nat → St → Kx → Option Res := fun _ _ _ => none
noncomputable def m66 (m : Nat) (x1 : Bool) (x2 : Int) (x3 : Int) (x4 : Int) (x5 : Int) : Option Res := (F41 [S.agg [C.bool x1, C.int x2, C.int x3, C.int x4, C.int x5]]).bind fun r1 => (S.cells? false r1.1).bind fun cs1 => if cs1.length = 1 then (List.head? cs1).bind fun c1 => (C.asBool c1).bind fun b1 => some (S.one (C.bool (!b1)), [S.one (C.unk)]) else none
theorem m66_eq (m : Nat) (x1 : Bool) (x2 : Int) (x3 : Int) (x4 : Int) (x5 : Int) : funcL E66 dr66 (lp66 m) false [.ro] c66 Go.Proofs.Try.f66.ntmps Go.Proofs.Try.f66.results.toList [S.agg [C.bool x1, C.int x2, C.int x3, C.int x4, C.int x5]] = m66 m x1 x2 x3 x4 x5 := by
  unfold m66
  kernel_rfl
theorem es66 : EnvSpec Go.Proofs.Try.prog E66 := envSpec_of (specsOk_cons go41 specsOk_nil)
theorem et66 : EnvTy Go.Proofs.Try.prog E66 := envTy_mk tys_eq
theorem lps66 (m : Nat) : LoopsOk Go.Proofs.Try.prog (lp66 m) c66 := loopsOk_of c66 (by rw [show loopsOf c66 = [] by kernel_rfl]; intro b hb; cases hb)
def in66 (c : Call) : List S := [S.agg (encCall c)]
noncomputable def out66 (c : Call) : Res := (S.one (C.bool (!callOk c)), [S.one C.unk])
def pre66 (c : Call) : Prop := True
noncomputable def F66 : List S → Option Res := told (A := Call) (fun a => in66 a) (fun a => pre66 a) (fun a => out66 a)
theorem F66_at (c : Call) : F66 [S.agg (encCall c)] = some (S.one (C.bool (!callOk c)), [S.one C.unk]) := told_at (A := Call) (enc := fun a => in66 a) (pre := fun a => pre66 a) (out := fun a => out66 a) (a := (c)) (by
  intro a b h
  first | (simp [in66] at h; simp [out66, h]; done) | (simp [in66] at h; simp only [← Call.ext_iff] at h; simp [out66, h]; done)) trivial
theorem plain66 (c : Call) (h : True) : ∃ m, m66 m c.push c.v c.ret c.frm c.to = some (S.one (C.bool (!callOk c)), [S.one C.unk]) := by
  exact ⟨0, by simp [m66, F41_at]⟩
noncomputable def S66 : Spec := ⟨[.ro], false, F66⟩
theorem ok66 : SpecOk Go.Proofs.Try.prog 66 S66 := funcL_ok follows et66 es66 Go.Proofs.Try.func66 (c := c66) (by kernel_rfl) (dr := dr66) (by kernel_rfl) (by
  intro xs r hl h
  obtain ⟨a, ha, rfl, rfl⟩ := told_some h
  obtain ⟨m, hm⟩ := plain66 a ha
  exact ⟨lp66 m, lps66 m, (m66_eq m _ _ _ _ _).trans hm⟩)
theorem go66 : CalleeOk Go.Proofs.Try.prog 66 S66 := ⟨ok66, _, Go.Proofs.Try.func66, by kernel_rfl, by kernel_rfl⟩
/-- The place of the first that fails, or -1. -/
def idxBad (i : Nat) : List Call → Int
  | [] => -1
  | c :: l => bif callOk c then idxBad (i + 1) l else (i : Int)
theorem idxBad_neg : ∀ (l : List Call) (i : Nat), decide (idxBad i l ≥ 0) = !l.all callOk
  | [], i => by simp [idxBad]
  | c :: l, i => by
    have := idxBad_neg l (i + 1)
    simp only [idxBad, List.all_cons]
    by_cases h : callOk c = true <;> simp [h, this]
/-! function 88: slices.IndexFunc[[]loop.example/g00712/impl.Call,loop.example/g00712/impl.Call] -/
noncomputable def c88 : Code := (Go.Proofs.Try.f88.body).getD .skip
noncomputable def E88 : Env := mkEnv tys [(66, S66)] []
def dr88 : Nat → OT := fun _ => .stop
noncomputable def b88_2 : Code := (findLoop 2 c88).getD .skip
noncomputable def L88_2 (m : Nat) (k0 : Int → Option Res) (k1 : Option Res) (nx : (Option Bool) → (List (List C)) → Int → Int → Option Res) (v1 : Option Bool) (v2 : List (List C)) (v3 : Int) (v4 : Int) : Option Res := bif decide (v4 < v3) then if 0 ≤ v4 ∧ v4 < (v2.length : Int) then (v2[Int.toNat v4]?).bind fun w1 => (List.head? w1).bind fun c1 => (C.asBool c1).bind fun b1 => (List.head? (List.tail w1)).bind fun c2 => (C.asInt .i64 c2).bind fun n1 => (List.head? (List.tail (List.tail w1))).bind fun c3 => (C.asInt .i64 c3).bind fun n2 => (List.head? (List.tail (List.tail (List.tail w1)))).bind fun c4 => (C.asInt .i64 c4).bind fun n3 => (List.head? (List.tail (List.tail (List.tail (List.tail w1))))).bind fun c5 => (C.asInt .i64 c5).bind fun n4 => (F66 [S.agg [C.bool b1, C.int n1, C.int n2, C.int n3, C.int n4]]).bind fun r1 => (S.cells? false r1.1).bind fun cs1 => if cs1.length = 1 then (List.head? cs1).bind fun c6 => (C.asBool c6).bind fun b2 => bif b2 then k0 v4 else nx v1 v2 v3 (W (v4 + 1)) else none else none else k1
noncomputable def R88_2 (m : Nat) (k0 : Int → Option Res) (k1 : Option Res) (nx : ((Option Bool) × (List (List C)) × Int × Int) → Option Res) (v : (Option Bool) × (List (List C)) × Int × Int) : Option Res := L88_2 m k0 k1 (fun v1 v2 v3 v4 => nx (v1, v2, v3, v4)) v.1 v.2.1 v.2.2.1 v.2.2.2
noncomputable def T88_2 (m : Nat) (k0 : Int → Option Res) (k1 : Option Res) (j : Nat) (v1 : Option Bool) (v2 : List (List C)) (v3 : Int) (v4 : Int) : Option Res := iterL (R88_2 m k0 k1) j (v1, v2, v3, v4)
def X88_2_0 (y1 : Int) : St := headOf 19 [4] ([S.one (C.int y1)], [])
def X88_2_1 : St := headOf 19 [4] ([S.one (C.unk)], [])
noncomputable def D88_2 (m : Nat) (k : Kx) (ss : List S) (bs : List Box) : Option Res :=
  match ss, bs with
  | [S.one (C.sl false v1 5 v2), S.one (C.fn 66 []), S.one (C.v (.int .i64 v3)), S.one (C.v (.int .i64 v4))], [] => T88_2 m (fun y1 => k (.ret) (X88_2_0 y1)) (k (.exit 0) X88_2_1) m v1 v2 v3 v4
  | _, _ => none
def H88_2 (v : (Option Bool) × (List (List C)) × Int × Int) : List S × List Box := (fun (v1 : Option Bool) (v2 : List (List C)) (v3 : Int) (v4 : Int) => ([S.one (C.sl false v1 5 v2), S.one (C.fn 66 []), S.one (C.int v3), S.one (C.int v4)], [])) v.1 v.2.1 v.2.2.1 v.2.2.2
noncomputable def lp88 (m : Nat) : Nat → St → Kx → Option Res := fun id σ k => bif Nat.beq id 2 then hand [0, 1, 7, 8] 0 19 (D88_2 m k) σ else none
noncomputable def m88 (m : Nat) (x1 : Option Bool) (x2 : List (List C)) : Option Res := T88_2 m (fun y1 => some (S.one (C.int y1), [S.one (C.unk), S.one (C.unk)])) (some (S.one (C.int (-1)), [S.one (C.unk), S.one (C.unk)])) m x1 x2 (x2.length : Int) 0
theorem m88_eq (m : Nat) (x1 : Option Bool) (x2 : List (List C)) : funcL E88 dr88 (lp88 m) false [.ro, .ro] c88 Go.Proofs.Try.f88.ntmps Go.Proofs.Try.f88.results.toList [S.one (C.sl false x1 5 x2), S.one (C.fn 66 [])] = m88 m x1 x2 := by
  unfold m88
  kernel_rfl
theorem st88_2 (m : Nat) (k : Kx) (Kn : St → Option Res) (v : (Option Bool) × (List (List C)) × Int × Int) : codeL E88 dr88 (lp88 m) b88_2 (headOf 19 [0, 1, 7, 8] (H88_2 v)) (fun e σ' => match e with | .normal => forgetK [0, 1, 7, 8] 0 σ' Kn | e => k e (σ'.only [4])) = R88_2 m (fun y1 => k (.ret) (X88_2_0 y1)) (k (.exit 0) X88_2_1) (fun v' => Kn (headOf 19 [0, 1, 7, 8] (H88_2 v'))) v := by
  unfold R88_2 L88_2
  kernel_rfl
theorem es88 : EnvSpec Go.Proofs.Try.prog E88 := envSpec_of (specsOk_cons go66 specsOk_nil)
theorem et88 : EnvTy Go.Proofs.Try.prog E88 := envTy_mk tys_eq
theorem lok88_2 (m : Nat) : LoopOk Go.Proofs.Try.prog b88_2 (lp88 m (firstRegion b88_2)) := loop_ok (dr := dr88) (lp := lp88 m) (kp := [0, 1, 7, 8]) (lv := [4]) follows et88 es88 (by kernel_rfl) (loopsOk_of b88_2 (by
  rw [show loopsOf b88_2 = [] by kernel_rfl]
  intro b hb
  cases hb)) (by
  intro σ k r h
  have h' : hand [0, 1, 7, 8] 0 19 (D88_2 m k) σ = some r := h
  refine hand_ok (V := (Option Bool) × (List (List C)) × Int × Int) (enc := H88_2) (fb := fun k => R88_2 m (fun y1 => k (.ret) (X88_2_0 y1)) (k (.exit 0) X88_2_1)) ?_ (fun k Kn v => st88_2 m k Kn v) σ k r h'
  intro k ss bs r h
  unfold D88_2 at h
  split at h
  · exact ⟨(_, _, _, _), m, rfl, h⟩
  · cases h)
theorem lps88 (m : Nat) : LoopsOk Go.Proofs.Try.prog (lp88 m) c88 := loopsOk_of c88 (by
  rw [show loopsOf c88 = [b88_2] by kernel_rfl]
  intro b hb
  simp only [List.mem_cons, List.not_mem_nil, or_false] at hb
  rcases hb with rfl
  · exact lok88_2 m)
def in88 (nl : Option Bool) (calls : List Call) : List S := [S.one (C.sl false nl 5 (calls.map encCall)), S.one (C.fn 66 [])]
noncomputable def out88 (nl : Option Bool) (calls : List Call) : Res := (S.one (C.int (idxBad 0 calls)), [S.one C.unk, S.one C.unk])
def pre88 (nl : Option Bool) (calls : List Call) : Prop := calls.length ≤ 1048576
noncomputable def F88 : List S → Option Res := told (A := (Option Bool) × (List Call)) (fun a => in88 a.1 a.2) (fun a => pre88 a.1 a.2) (fun a => out88 a.1 a.2)
theorem F88_at (nl : Option Bool) (calls : List Call) (h : calls.length ≤ 1048576) : F88 [S.one (C.sl false nl 5 (calls.map encCall)), S.one (C.fn 66 [])] = some (S.one (C.int (idxBad 0 calls)), [S.one C.unk, S.one C.unk]) := told_at (A := (Option Bool) × (List Call)) (enc := fun a => in88 a.1 a.2) (pre := fun a => pre88 a.1 a.2) (out := fun a => out88 a.1 a.2) (a := (nl, calls)) (by
  intro a b h
  first | (simp [in88] at h; simp [out88, h]; done) | (simp [in88] at h; simp only [← Call.ext_iff] at h; simp [out88, h]; done)) h
theorem plain88 (nl : Option Bool) (calls : List Call) (h : calls.length ≤ 1048576) : ∃ m, m88 m nl (calls.map encCall) = some (S.one (C.int (idxBad 0 calls)), [S.one C.unk, S.one C.unk]) := by
  refine ⟨calls.length + 1, ?_⟩
  have key : ∀ (rest pre : List Call) (j : Nat), rest.length < j → pre.length + rest.length ≤ 1048576 → T88_2 (calls.length + 1) (fun y1 => some (S.one (C.int y1), [S.one C.unk, S.one C.unk])) (some (S.one (C.int (-1)), [S.one C.unk, S.one C.unk])) j nl ((pre ++ rest).map encCall) ((pre.length : Int) + (rest.length : Int)) (pre.length : Int) = some (S.one (C.int (idxBad pre.length rest)), [S.one C.unk, S.one C.unk]) := by
    intro rest
    induction rest with
    | nil =>
      intro pre j hj _
      obtain ⟨j, rfl⟩ : ∃ k, j = k + 1 := ⟨j - 1, by omega⟩
      simp [T88_2, iterL, R88_2, L88_2, idxBad]
    | cons c rest ih =>
      intro pre j hj hl
      obtain ⟨j, rfl⟩ : ∃ k, j = k + 1 := ⟨j - 1, by omega⟩
      simp only [List.length_cons] at hj hl
      have ih' := ih (pre ++ [c]) j (by omega) (by simp; omega)
      simp only [T88_2, iterL, R88_2, L88_2] at ih' ⊢
      simp only [List.append_assoc, List.singleton_append, List.length_append, List.length_cons, List.length_nil, Nat.zero_add] at ih'
      simp [F66_at, idxBad]
      cases hc : callOk c with
      | false => simp
      | true =>
        simp only [Bool.not_true, cond_false, cond_true]
        rw [← ih', W_succ (i := pre.length) (by omega), show (pre.length : Int) + ((rest.length : Int) + 1) = ((pre.length + 1 : Nat) : Int) + (rest.length : Int) by omega]
        simp
  have := key calls [] (calls.length + 1) (by omega) (by simpa using h)
  simpa [m88] using this
noncomputable def S88 : Spec := ⟨[.ro, .ro], false, F88⟩
theorem ok88 : SpecOk Go.Proofs.Try.prog 88 S88 := funcL_ok follows et88 es88 Go.Proofs.Try.func88 (c := c88) (by kernel_rfl) (dr := dr88) (by kernel_rfl) (by
  intro xs r hl h
  obtain ⟨a, ha, rfl, rfl⟩ := told_some h
  obtain ⟨m, hm⟩ := plain88 a.1 a.2 ha
  exact ⟨lp88 m, lps88 m, (m88_eq m _ _).trans hm⟩)
theorem go88 : CalleeOk Go.Proofs.Try.prog 88 S88 := ⟨ok88, _, Go.Proofs.Try.func88, by kernel_rfl, by kernel_rfl⟩
/-! function 65: slices.ContainsFunc[[]loop.example/g00712/impl.Call,loop.example/g00712/impl.Call] -/
noncomputable def c65 : Code := (Go.Proofs.Try.f65.body).getD .skip
noncomputable def E65 : Env := mkEnv tys [(88, S88)] []
def dr65 : Nat → OT := fun _ => .stop
noncomputable def lp65 (_ : Nat) : Nat → St → Kx → Option Res := fun _ _ _ => none
noncomputable def m65 (m : Nat) (x1 : Option Bool) (x2 : List (List C)) : Option Res := (F88 [S.one (C.sl false x1 5 x2), S.one (C.fn 66 [])]).bind fun r1 => (S.cells? false r1.1).bind fun cs1 => if cs1.length = 1 then (List.head? cs1).bind fun c1 => (C.asInt .i64 c1).bind fun n1 => some (S.one (C.bool (decide (n1 ≥ 0))), [S.one (C.unk), S.one (C.unk)]) else none
theorem m65_eq (m : Nat) (x1 : Option Bool) (x2 : List (List C)) : funcL E65 dr65 (lp65 m) false [.ro, .ro] c65 Go.Proofs.Try.f65.ntmps Go.Proofs.Try.f65.results.toList [S.one (C.sl false x1 5 x2), S.one (C.fn 66 [])] = m65 m x1 x2 := by
  unfold m65
  kernel_rfl
theorem es65 : EnvSpec Go.Proofs.Try.prog E65 := envSpec_of (specsOk_cons go88 specsOk_nil)
theorem et65 : EnvTy Go.Proofs.Try.prog E65 := envTy_mk tys_eq
theorem lps65 (m : Nat) : LoopsOk Go.Proofs.Try.prog (lp65 m) c65 := loopsOk_of c65 (by rw [show loopsOf c65 = [] by kernel_rfl]; intro b hb; cases hb)
def in65 (nl : Option Bool) (calls : List Call) : List S := [S.one (C.sl false nl 5 (calls.map encCall)), S.one (C.fn 66 [])]
noncomputable def out65 (nl : Option Bool) (calls : List Call) : Res := (S.one (C.bool (!calls.all callOk)), [S.one C.unk, S.one C.unk])
def pre65 (nl : Option Bool) (calls : List Call) : Prop := calls.length ≤ 1048576
noncomputable def F65 : List S → Option Res := told (A := (Option Bool) × (List Call)) (fun a => in65 a.1 a.2) (fun a => pre65 a.1 a.2) (fun a => out65 a.1 a.2)
theorem F65_at (nl : Option Bool) (calls : List Call) (h : calls.length ≤ 1048576) : F65 [S.one (C.sl false nl 5 (calls.map encCall)), S.one (C.fn 66 [])] = some (S.one (C.bool (!calls.all callOk)), [S.one C.unk, S.one C.unk]) := told_at (A := (Option Bool) × (List Call)) (enc := fun a => in65 a.1 a.2) (pre := fun a => pre65 a.1 a.2) (out := fun a => out65 a.1 a.2) (a := (nl, calls)) (by
  intro a b h
  first | (simp [in65] at h; simp [out65, h]; done) | (simp [in65] at h; simp only [← Call.ext_iff] at h; simp [out65, h]; done)) h
theorem plain65 (nl : Option Bool) (calls : List Call) (h : calls.length ≤ 1048576) : ∃ m, m65 m nl (calls.map encCall) = some (S.one (C.bool (!calls.all callOk)), [S.one C.unk, S.one C.unk]) := by
  exact ⟨0, by simp only [m65, F88_at _ _ h]; simp [idxBad_neg]⟩
noncomputable def S65 : Spec := ⟨[.ro, .ro], false, F65⟩
theorem ok65 : SpecOk Go.Proofs.Try.prog 65 S65 := funcL_ok follows et65 es65 Go.Proofs.Try.func65 (c := c65) (by kernel_rfl) (dr := dr65) (by kernel_rfl) (by
  intro xs r hl h
  obtain ⟨a, ha, rfl, rfl⟩ := told_some h
  obtain ⟨m, hm⟩ := plain65 a.1 a.2 ha
  exact ⟨lp65 m, lps65 m, (m65_eq m _ _).trans hm⟩)
theorem go65 : CalleeOk Go.Proofs.Try.prog 65 S65 := ⟨ok65, _, Go.Proofs.Try.func65, by kernel_rfl, by kernel_rfl⟩
/-! function 46: loop.example/g00712/impl.areCalls -/
noncomputable def c46 : Code := (Go.Proofs.Try.f46.body).getD .skip
noncomputable def E46 : Env := mkEnv tys [(65, S65)] []
def dr46 : Nat → OT := fun _ => .stop
noncomputable def lp46 (_ : Nat) : Nat → St → Kx → Option Res := fun _ _ _ => none
noncomputable def m46 (m : Nat) (x1 : Option Bool) (x2 : List (List C)) : Option Res := bif decide ((x2.length : Int) ≤ 7) then (F65 [S.one (C.sl false x1 5 x2), S.one (C.fn 66 [])]).bind fun r1 => (S.cells? false r1.1).bind fun cs1 => if cs1.length = 1 then (List.head? cs1).bind fun c1 => (C.asBool c1).bind fun b1 => some (S.one (C.bool (!b1)), [S.one (C.unk)]) else none else some (S.one (C.bool false), [S.one (C.unk)])
theorem m46_eq (m : Nat) (x1 : Option Bool) (x2 : List (List C)) : funcL E46 dr46 (lp46 m) false [.ro] c46 Go.Proofs.Try.f46.ntmps Go.Proofs.Try.f46.results.toList [S.one (C.sl false x1 5 x2)] = m46 m x1 x2 := by
  unfold m46
  kernel_rfl
theorem es46 : EnvSpec Go.Proofs.Try.prog E46 := envSpec_of (specsOk_cons go65 specsOk_nil)
theorem et46 : EnvTy Go.Proofs.Try.prog E46 := envTy_mk tys_eq
theorem lps46 (m : Nat) : LoopsOk Go.Proofs.Try.prog (lp46 m) c46 := loopsOk_of c46 (by rw [show loopsOf c46 = [] by kernel_rfl]; intro b hb; cases hb)
def in46 (nl : Option Bool) (calls : List Call) : List S := [S.one (C.sl false nl 5 (calls.map encCall))]
noncomputable def out46 (nl : Option Bool) (calls : List Call) : Res := (S.one (C.bool (fine calls)), [S.one C.unk])
def pre46 (nl : Option Bool) (calls : List Call) : Prop := True
noncomputable def F46 : List S → Option Res := told (A := (Option Bool) × (List Call)) (fun a => in46 a.1 a.2) (fun a => pre46 a.1 a.2) (fun a => out46 a.1 a.2)
theorem F46_at (nl : Option Bool) (calls : List Call) : F46 [S.one (C.sl false nl 5 (calls.map encCall))] = some (S.one (C.bool (fine calls)), [S.one C.unk]) := told_at (A := (Option Bool) × (List Call)) (enc := fun a => in46 a.1 a.2) (pre := fun a => pre46 a.1 a.2) (out := fun a => out46 a.1 a.2) (a := (nl, calls)) (by
  intro a b h
  first | (simp [in46] at h; simp [out46, h]; done) | (simp [in46] at h; simp only [← Call.ext_iff] at h; simp [out46, h]; done)) trivial
theorem plain46 (nl : Option Bool) (calls : List Call) (h : True) : ∃ m, m46 m nl (calls.map encCall) = some (S.one (C.bool (fine calls)), [S.one C.unk]) := by
  refine ⟨0, ?_⟩
  by_cases h7 : calls.length ≤ 7
  · simp only [m46, F65_at nl calls (by omega)]
    simp [fine, h7, show ((calls.length : Int) ≤ 7) by omega]
  · simp [m46, fine, h7, show ¬ ((calls.length : Int) ≤ 7) by omega]
noncomputable def S46 : Spec := ⟨[.ro], false, F46⟩
theorem ok46 : SpecOk Go.Proofs.Try.prog 46 S46 := funcL_ok follows et46 es46 Go.Proofs.Try.func46 (c := c46) (by kernel_rfl) (dr := dr46) (by kernel_rfl) (by
  intro xs r hl h
  obtain ⟨a, ha, rfl, rfl⟩ := told_some h
  obtain ⟨m, hm⟩ := plain46 a.1 a.2 ha
  exact ⟨lp46 m, lps46 m, (m46_eq m _ _).trans hm⟩)
theorem go46 : CalleeOk Go.Proofs.Try.prog 46 S46 := ⟨ok46, _, Go.Proofs.Try.func46, by kernel_rfl, by kernel_rfl⟩
/-! function 44: loop.example/g00712/laws.toCall -/
noncomputable def c44 : Code := (Go.Proofs.Try.f44.body).getD .skip
noncomputable def E44 : Env := mkEnv tys [] []
def dr44 : Nat → OT := fun _ => .stop
noncomputable def lp44 (_ : Nat) : Nat → St → Kx → Option Res := fun _ _ _ => none
noncomputable def m44 (m : Nat) (x1 : Bool) (x2 : Int) (x3 : Int) (x4 : Int) (x5 : Int) : Option Res := some (S.agg [C.bool x1, C.int x2, C.int x3, C.int x4, C.int x5], [S.one (C.unk)])
theorem m44_eq (m : Nat) (x1 : Bool) (x2 : Int) (x3 : Int) (x4 : Int) (x5 : Int) : funcL E44 dr44 (lp44 m) false [.ro] c44 Go.Proofs.Try.f44.ntmps Go.Proofs.Try.f44.results.toList [S.agg [C.bool x1, C.int x2, C.int x3, C.int x4, C.int x5]] = m44 m x1 x2 x3 x4 x5 := by
  unfold m44
  kernel_rfl
theorem es44 : EnvSpec Go.Proofs.Try.prog E44 := envSpec_of (specsOk_nil)
theorem et44 : EnvTy Go.Proofs.Try.prog E44 := envTy_mk tys_eq
theorem lps44 (m : Nat) : LoopsOk Go.Proofs.Try.prog (lp44 m) c44 := loopsOk_of c44 (by rw [show loopsOf c44 = [] by kernel_rfl]; intro b hb; cases hb)
def in44 (c : Call) : List S := [S.agg (encCall c)]
noncomputable def out44 (c : Call) : Res := (S.agg (encCall c), [S.one C.unk])
def pre44 (c : Call) : Prop := True
noncomputable def F44 : List S → Option Res := told (A := Call) (fun a => in44 a) (fun a => pre44 a) (fun a => out44 a)
theorem F44_at (c : Call) : F44 [S.agg (encCall c)] = some (S.agg (encCall c), [S.one C.unk]) := told_at (A := Call) (enc := fun a => in44 a) (pre := fun a => pre44 a) (out := fun a => out44 a) (a := (c)) (by
  intro a b h
  first | (simp [in44] at h; simp [out44, h]; done) | (simp [in44] at h; simp only [← Call.ext_iff] at h; simp [out44, h]; done)) trivial
theorem plain44 (c : Call) (h : True) : ∃ m, m44 m c.push c.v c.ret c.frm c.to = some (S.agg (encCall c), [S.one C.unk]) := by
  exact ⟨0, rfl⟩
noncomputable def S44 : Spec := ⟨[.ro], false, F44⟩
theorem ok44 : SpecOk Go.Proofs.Try.prog 44 S44 := funcL_ok follows et44 es44 Go.Proofs.Try.func44 (c := c44) (by kernel_rfl) (dr := dr44) (by kernel_rfl) (by
  intro xs r hl h
  obtain ⟨a, ha, rfl, rfl⟩ := told_some h
  obtain ⟨m, hm⟩ := plain44 a ha
  exact ⟨lp44 m, lps44 m, (m44_eq m _ _ _ _ _).trans hm⟩)
theorem go44 : CalleeOk Go.Proofs.Try.prog 44 S44 := ⟨ok44, _, Go.Proofs.Try.func44, by kernel_rfl, by kernel_rfl⟩
/-! function 13: loop.example/g00712/laws.toCallS -/
noncomputable def c13 : Code := (Go.Proofs.Try.f13.body).getD .skip
noncomputable def E13 : Env := mkEnv tys [(44, S44)] []
def dr13 : Nat → OT := fun _ => .stop
noncomputable def b13_3 : Code := (findLoop 3 c13).getD .skip
noncomputable def L13_3 (m : Nat) (k0 : (Option Bool) → (List (List C)) → Option Res) (nx : (Option Bool) → (List (List C)) → Int → (Option Bool) → (List (List C)) → Option Res) (v1 : Option Bool) (v2 : List (List C)) (v3 : Int) (v4 : Option Bool) (v5 : List (List C)) : Option Res := bif decide (v3 < (v2.length : Int)) then if 0 ≤ v3 ∧ v3 < (v2.length : Int) then (v2[Int.toNat v3]?).bind fun w1 => (List.head? w1).bind fun c1 => (C.asBool c1).bind fun b1 => (List.head? (List.tail w1)).bind fun c2 => (C.asInt .i64 c2).bind fun n1 => (List.head? (List.tail (List.tail w1))).bind fun c3 => (C.asInt .i64 c3).bind fun n2 => (List.head? (List.tail (List.tail (List.tail w1)))).bind fun c4 => (C.asInt .i64 c4).bind fun n3 => (List.head? (List.tail (List.tail (List.tail (List.tail w1))))).bind fun c5 => (C.asInt .i64 c5).bind fun n4 => (F44 [S.agg [C.bool b1, C.int n1, C.int n2, C.int n3, C.int n4]]).bind fun r1 => (S.cells? true r1.1).bind fun cs1 => if cs1.length = 5 then (List.head? cs1).bind fun c6 => (C.asBool c6).bind fun b2 => (List.head? (List.tail cs1)).bind fun c7 => (C.asInt .i64 c7).bind fun n5 => (List.head? (List.tail (List.tail cs1))).bind fun c8 => (C.asInt .i64 c8).bind fun n6 => (List.head? (List.tail (List.tail (List.tail cs1)))).bind fun c9 => (C.asInt .i64 c9).bind fun n7 => (List.head? (List.tail (List.tail (List.tail (List.tail cs1))))).bind fun c10 => (C.asInt .i64 c10).bind fun n8 => if 0 ≤ v3 ∧ v3 < (v5.length : Int) then (v5[Int.toNat v3]?).bind fun w2 => (w2[0]?).bind fun c11 => (C.asBool c11).bind fun b3 => (let e1 : List (List C) := List.modify v5 (Int.toNat v3) fun row => row.modify 0 (plant [] (C.bool b2)); (e1[Int.toNat v3]?).bind fun w3 => (w3[1]?).bind fun c12 => (C.asInt .i64 c12).bind fun n9 => (let e2 : List (List C) := List.modify e1 (Int.toNat v3) fun row => row.modify 1 (plant [] (C.int n5)); (e2[Int.toNat v3]?).bind fun w4 => (w4[2]?).bind fun c13 => (C.asInt .i64 c13).bind fun n10 => (let e3 : List (List C) := List.modify e2 (Int.toNat v3) fun row => row.modify 2 (plant [] (C.int n6)); (e3[Int.toNat v3]?).bind fun w5 => (w5[3]?).bind fun c14 => (C.asInt .i64 c14).bind fun n11 => (let e4 : List (List C) := List.modify e3 (Int.toNat v3) fun row => row.modify 3 (plant [] (C.int n7)); (e4[Int.toNat v3]?).bind fun w6 => (w6[4]?).bind fun c15 => (C.asInt .i64 c15).bind fun n12 => (let e5 : List (List C) := List.modify e4 (Int.toNat v3) fun row => row.modify 4 (plant [] (C.int n8)); nx v1 v2 (W (v3 + 1)) v4 e5))))) else none else none else none else k0 v4 v5
noncomputable def R13_3 (m : Nat) (k0 : (Option Bool) → (List (List C)) → Option Res) (nx : ((Option Bool) × (List (List C)) × Int × (Option Bool) × (List (List C))) → Option Res) (v : (Option Bool) × (List (List C)) × Int × (Option Bool) × (List (List C))) : Option Res := L13_3 m k0 (fun v1 v2 v3 v4 v5 => nx (v1, v2, v3, v4, v5)) v.1 v.2.1 v.2.2.1 v.2.2.2.1 v.2.2.2.2
noncomputable def T13_3 (m : Nat) (k0 : (Option Bool) → (List (List C)) → Option Res) (j : Nat) (v1 : Option Bool) (v2 : List (List C)) (v3 : Int) (v4 : Option Bool) (v5 : List (List C)) : Option Res := iterL (R13_3 m k0) j (v1, v2, v3, v4, v5)
def X13_3_0 (y1 : Option Bool) (y2 : List (List C)) : St := headOf 23 [3] ([S.one (C.al ⟨2, 0, []⟩)], [⟨true, [C.unk]⟩, ⟨true, [C.unk]⟩, ⟨true, [C.sl true y1 5 y2]⟩])
noncomputable def D13_3 (m : Nat) (k : Kx) (ss : List S) (bs : List Box) : Option Res :=
  match ss, bs with
  | [S.one (C.sl false v1 5 v2), S.one (C.al ⟨2, 0, []⟩), S.one (C.v (.int .i64 v3))], [⟨true, [C.unk]⟩, ⟨true, [C.unk]⟩, ⟨true, [C.sl true v4 5 v5]⟩] => T13_3 m (fun y1 y2 => k (.exit 0) (X13_3_0 y1 y2)) m v1 v2 v3 v4 v5
  | _, _ => none
def H13_3 (v : (Option Bool) × (List (List C)) × Int × (Option Bool) × (List (List C))) : List S × List Box := (fun (v1 : Option Bool) (v2 : List (List C)) (v3 : Int) (v4 : Option Bool) (v5 : List (List C)) => ([S.one (C.sl false v1 5 v2), S.one (C.al ⟨2, 0, []⟩), S.one (C.int v3)], [⟨true, [C.unk]⟩, ⟨true, [C.unk]⟩, ⟨true, [C.sl true v4 5 v5]⟩])) v.1 v.2.1 v.2.2.1 v.2.2.2.1 v.2.2.2.2
noncomputable def lp13 (m : Nat) : Nat → St → Kx → Option Res := fun id σ k => bif Nat.beq id 3 then hand [0, 3, 4] 2 23 (D13_3 m k) σ else none
noncomputable def m13 (m : Nat) (x1 : Option Bool) (x2 : List (List C)) : Option Res := if 0 ≤ (x2.length : Int) ∧ (x2.length : Int) ≤ (x2.length : Int) ∧ (x2.length : Int) * 40 ≤ (LIM : Int) ∧ 0 < 5 then T13_3 m (fun y1 y2 => if (([S.one (C.sl true y1 5 y2)].all (S.leaves false) && [S.one (C.unk)].all (S.leaves false)) && lensOk [S.one (C.sl false x1 5 x2)] [S.one (C.unk)]) = true then some (S.one (C.sl true y1 5 y2), [S.one (C.unk)]) else none) m x1 x2 0 (some false) (List.replicate (Int.toNat (x2.length : Int)) [C.bool false, C.int 0, C.int 0, C.int 0, C.int 0]) else none
theorem m13_eq (m : Nat) (x1 : Option Bool) (x2 : List (List C)) : funcL E13 dr13 (lp13 m) false [.ro] c13 Go.Proofs.Try.f13.ntmps Go.Proofs.Try.f13.results.toList [S.one (C.sl false x1 5 x2)] = m13 m x1 x2 := by
  unfold m13
  kernel_rfl
theorem st13_3 (m : Nat) (k : Kx) (Kn : St → Option Res) (v : (Option Bool) × (List (List C)) × Int × (Option Bool) × (List (List C))) : codeL E13 dr13 (lp13 m) b13_3 (headOf 23 [0, 3, 4] (H13_3 v)) (fun e σ' => match e with | .normal => forgetK [0, 3, 4] 2 σ' Kn | e => k e (σ'.only [3])) = R13_3 m (fun y1 y2 => k (.exit 0) (X13_3_0 y1 y2)) (fun v' => Kn (headOf 23 [0, 3, 4] (H13_3 v'))) v := by
  unfold R13_3 L13_3
  kernel_rfl
theorem es13 : EnvSpec Go.Proofs.Try.prog E13 := envSpec_of (specsOk_cons go44 specsOk_nil)
theorem et13 : EnvTy Go.Proofs.Try.prog E13 := envTy_mk tys_eq
theorem lok13_3 (m : Nat) : LoopOk Go.Proofs.Try.prog b13_3 (lp13 m (firstRegion b13_3)) := loop_ok (dr := dr13) (lp := lp13 m) (kp := [0, 3, 4]) (lv := [3]) follows et13 es13 (by kernel_rfl) (loopsOk_of b13_3 (by
  rw [show loopsOf b13_3 = [] by kernel_rfl]
  intro b hb
  cases hb)) (by
  intro σ k r h
  have h' : hand [0, 3, 4] 2 23 (D13_3 m k) σ = some r := h
  refine hand_ok (V := (Option Bool) × (List (List C)) × Int × (Option Bool) × (List (List C))) (enc := H13_3) (fb := fun k => R13_3 m (fun y1 y2 => k (.exit 0) (X13_3_0 y1 y2))) ?_ (fun k Kn v => st13_3 m k Kn v) σ k r h'
  intro k ss bs r h
  unfold D13_3 at h
  split at h
  · exact ⟨(_, _, _, _, _), m, rfl, h⟩
  · cases h)
theorem lps13 (m : Nat) : LoopsOk Go.Proofs.Try.prog (lp13 m) c13 := loopsOk_of c13 (by
  rw [show loopsOf c13 = [b13_3] by kernel_rfl]
  intro b hb
  simp only [List.mem_cons, List.not_mem_nil, or_false] at hb
  rcases hb with rfl
  · exact lok13_3 m)
def in13 (nl : Option Bool) (l : List Call) : List S := [S.one (C.sl false nl 5 (l.map encCall))]
noncomputable def out13 (nl : Option Bool) (l : List Call) : Res := (S.one (C.sl true (some false) 5 (l.map encCall)), [S.one C.unk])
def pre13 (nl : Option Bool) (l : List Call) : Prop := l.length ≤ 1048576
noncomputable def F13 : List S → Option Res := told (A := (Option Bool) × (List Call)) (fun a => in13 a.1 a.2) (fun a => pre13 a.1 a.2) (fun a => out13 a.1 a.2)
theorem F13_at (nl : Option Bool) (l : List Call) (h : l.length ≤ 1048576) : F13 [S.one (C.sl false nl 5 (l.map encCall))] = some (S.one (C.sl true (some false) 5 (l.map encCall)), [S.one C.unk]) := told_at (A := (Option Bool) × (List Call)) (enc := fun a => in13 a.1 a.2) (pre := fun a => pre13 a.1 a.2) (out := fun a => out13 a.1 a.2) (a := (nl, l)) (by
  intro a b h
  first | (simp [in13] at h; simp [out13, h]; done) | (simp [in13] at h; simp only [← Call.ext_iff] at h; simp [out13, h]; done)) h
theorem plain13 (nl : Option Bool) (l : List Call) (h : l.length ≤ 1048576) : ∃ m, m13 m nl (l.map encCall) = some (S.one (C.sl true (some false) 5 (l.map encCall)), [S.one C.unk]) := by
  refine ⟨l.length + 1, ?_⟩
  have key : ∀ (k0 : Option Bool → List (List C) → Option Res) (rest pre : List Call) (j : Nat), rest.length < j → pre.length + rest.length ≤ 1048576 → T13_3 (l.length + 1) k0 j nl ((pre ++ rest).map encCall) (pre.length : Int) (some false) (pre.map encCall ++ List.replicate rest.length [C.bool false, C.int 0, C.int 0, C.int 0, C.int 0]) = k0 (some false) ((pre ++ rest).map encCall) := by
    intro k0 rest
    induction rest with
    | nil =>
      intro pre j hj _
      obtain ⟨j, rfl⟩ : ∃ k, j = k + 1 := ⟨j - 1, by omega⟩
      simp [T13_3, iterL, R13_3, L13_3]
    | cons c rest ih =>
      intro pre j hj hl
      obtain ⟨j, rfl⟩ : ∃ k, j = k + 1 := ⟨j - 1, by omega⟩
      simp only [List.length_cons] at hj hl
      have ih' := ih (pre ++ [c]) j (by omega) (by simp; omega)
      simp only [T13_3, iterL, R13_3, L13_3] at ih' ⊢
      simp only [List.append_assoc, List.singleton_append, List.length_append, List.length_cons, List.length_nil, Nat.zero_add, List.map_append, List.map_cons, List.map_nil] at ih'
      simp [F44_at, List.replicate_succ, plant]
      rw [W_succ (i := pre.length) (by omega)]
      simpa using ih'
  have := key (fun y1 y2 => if (([S.one (C.sl true y1 5 y2)].all (S.leaves false) && [S.one (C.unk)].all (S.leaves false)) && lensOk [S.one (C.sl false nl 5 (l.map encCall))] [S.one (C.unk)]) = true then some (S.one (C.sl true y1 5 y2), [S.one (C.unk)]) else none) l [] (l.length + 1) (by omega) (by simpa using h)
  simp only [List.nil_append, List.map_nil, List.length_nil] at this
  simp [m13, LIM]
  refine ⟨by omega, ?_⟩
  simpa [S.leaves, C.leaves, C.nested, C.free, lensOk] using this
noncomputable def S13 : Spec := ⟨[.ro], false, F13⟩
theorem ok13 : SpecOk Go.Proofs.Try.prog 13 S13 := funcL_ok follows et13 es13 Go.Proofs.Try.func13 (c := c13) (by kernel_rfl) (dr := dr13) (by kernel_rfl) (by
  intro xs r hl h
  obtain ⟨a, ha, rfl, rfl⟩ := told_some h
  obtain ⟨m, hm⟩ := plain13 a.1 a.2 ha
  exact ⟨lp13 m, lps13 m, (m13_eq m _ _).trans hm⟩)
theorem go13 : CalleeOk Go.Proofs.Try.prog 13 S13 := ⟨ok13, _, Go.Proofs.Try.func13, by kernel_rfl, by kernel_rfl⟩
/-! function 11: loop.example/g00712/laws.szCallS -/
noncomputable def c11 : Code := (Go.Proofs.Try.f11.body).getD .skip
noncomputable def E11 : Env := mkEnv tys [] []
def dr11 : Nat → OT := fun _ => .stop
noncomputable def lp11 (_ : Nat) : Nat → St → Kx → Option Res := fun _ _ _ => none
noncomputable def m11 (m : Nat) (x1 : Option Bool) (x2 : List (List C)) (x3 : Int) : Option Res := bif decide (W (x3 - (x2.length : Int)) < 0) then some (S.one (C.int (-1)), [S.one (C.unk), S.one (C.unk)]) else some (S.one (C.int (W (x3 - (x2.length : Int)))), [S.one (C.unk), S.one (C.unk)])
theorem m11_eq (m : Nat) (x1 : Option Bool) (x2 : List (List C)) (x3 : Int) : funcL E11 dr11 (lp11 m) false [.ro, .ro] c11 Go.Proofs.Try.f11.ntmps Go.Proofs.Try.f11.results.toList [S.one (C.sl false x1 5 x2), S.one (C.int x3)] = m11 m x1 x2 x3 := by
  unfold m11
  kernel_rfl
theorem es11 : EnvSpec Go.Proofs.Try.prog E11 := envSpec_of (specsOk_nil)
theorem et11 : EnvTy Go.Proofs.Try.prog E11 := envTy_mk tys_eq
theorem lps11 (m : Nat) : LoopsOk Go.Proofs.Try.prog (lp11 m) c11 := loopsOk_of c11 (by rw [show loopsOf c11 = [] by kernel_rfl]; intro b hb; cases hb)
def in11 (nl : Option Bool) (l : List Call) (n : Int) : List S := [S.one (C.sl false nl 5 (l.map encCall)), S.one (C.int n)]
noncomputable def out11 (nl : Option Bool) (l : List Call) (n : Int) : Res := (S.one (C.int (if n - l.length < 0 then -1 else n - l.length)), [S.one C.unk, S.one C.unk])
def pre11 (nl : Option Bool) (l : List Call) (n : Int) : Prop := l.length ≤ 9223372036854775807 ∧ 0 ≤ n ∧ n ≤ 1048576
noncomputable def F11 : List S → Option Res := told (A := (Option Bool) × (List Call) × Int) (fun a => in11 a.1 a.2.1 a.2.2) (fun a => pre11 a.1 a.2.1 a.2.2) (fun a => out11 a.1 a.2.1 a.2.2)
theorem F11_at (nl : Option Bool) (l : List Call) (n : Int) (h : l.length ≤ 9223372036854775807 ∧ 0 ≤ n ∧ n ≤ 1048576) : F11 [S.one (C.sl false nl 5 (l.map encCall)), S.one (C.int n)] = some (S.one (C.int (if n - l.length < 0 then -1 else n - l.length)), [S.one C.unk, S.one C.unk]) := told_at (A := (Option Bool) × (List Call) × Int) (enc := fun a => in11 a.1 a.2.1 a.2.2) (pre := fun a => pre11 a.1 a.2.1 a.2.2) (out := fun a => out11 a.1 a.2.1 a.2.2) (a := (nl, l, n)) (by
  intro a b h
  first | (simp [in11] at h; simp [out11, h]; done) | (simp [in11] at h; simp only [← Call.ext_iff] at h; simp [out11, h]; done)) h
theorem plain11 (nl : Option Bool) (l : List Call) (n : Int) (h : l.length ≤ 9223372036854775807 ∧ 0 ≤ n ∧ n ≤ 1048576) : ∃ m, m11 m nl (l.map encCall) n = some (S.one (C.int (if n - l.length < 0 then -1 else n - l.length)), [S.one C.unk, S.one C.unk]) := by
  refine ⟨0, ?_⟩
  simp only [m11, List.length_map]
  rw [W_eq (by omega) (by omega)]
  by_cases hn : n - (l.length : Int) < 0 <;> simp [hn]
noncomputable def S11 : Spec := ⟨[.ro, .ro], false, F11⟩
theorem ok11 : SpecOk Go.Proofs.Try.prog 11 S11 := funcL_ok follows et11 es11 Go.Proofs.Try.func11 (c := c11) (by kernel_rfl) (dr := dr11) (by kernel_rfl) (by
  intro xs r hl h
  obtain ⟨a, ha, rfl, rfl⟩ := told_some h
  obtain ⟨m, hm⟩ := plain11 a.1 a.2.1 a.2.2 ha
  exact ⟨lp11 m, lps11 m, (m11_eq m _ _ _).trans hm⟩)
theorem go11 : CalleeOk Go.Proofs.Try.prog 11 S11 := ⟨ok11, _, Go.Proofs.Try.func11, by kernel_rfl, by kernel_rfl⟩
def eqCall (a b : Call) : Bool := a.push == b.push && a.v == b.v && a.ret == b.ret && a.frm == b.frm && a.to == b.to
theorem eqCall_iff (a b : Call) : eqCall a b = true ↔ a = b := by
  simp [eqCall, Call.ext_iff, and_assoc]
theorem eqCall_self (a : Call) : eqCall a a = true := (eqCall_iff a a).2 rfl
/-! function 47: loop.example/g00712/laws.eqCall -/
noncomputable def c47 : Code := (Go.Proofs.Try.f47.body).getD .skip
noncomputable def E47 : Env := mkEnv tys [] []
def dr47 : Nat → OT := fun _ => .stop
noncomputable def lp47 (_ : Nat) : Nat → St → Kx → Option Res := fun _ _ _ => none
noncomputable def m47 (m : Nat) (x1 : Bool) (x2 : Int) (x3 : Int) (x4 : Int) (x5 : Int) (x6 : Bool) (x7 : Int) (x8 : Int) (x9 : Int) (x10 : Int) : Option Res := bif !(x1 == x6) then some (S.one (C.bool false), [S.one (C.unk), S.one (C.unk)]) else bif x2 != x7 then some (S.one (C.bool false), [S.one (C.unk), S.one (C.unk)]) else bif x3 != x8 then some (S.one (C.bool false), [S.one (C.unk), S.one (C.unk)]) else bif x4 != x9 then some (S.one (C.bool false), [S.one (C.unk), S.one (C.unk)]) else bif x5 != x10 then some (S.one (C.bool false), [S.one (C.unk), S.one (C.unk)]) else some (S.one (C.bool true), [S.one (C.unk), S.one (C.unk)])
theorem m47_eq (m : Nat) (x1 : Bool) (x2 : Int) (x3 : Int) (x4 : Int) (x5 : Int) (x6 : Bool) (x7 : Int) (x8 : Int) (x9 : Int) (x10 : Int) : funcL E47 dr47 (lp47 m) false [.ro, .ro] c47 Go.Proofs.Try.f47.ntmps Go.Proofs.Try.f47.results.toList [S.agg [C.bool x1, C.int x2, C.int x3, C.int x4, C.int x5], S.agg [C.bool x6, C.int x7, C.int x8, C.int x9, C.int x10]] = m47 m x1 x2 x3 x4 x5 x6 x7 x8 x9 x10 := by
  unfold m47
  kernel_rfl
theorem es47 : EnvSpec Go.Proofs.Try.prog E47 := envSpec_of (specsOk_nil)
theorem et47 : EnvTy Go.Proofs.Try.prog E47 := envTy_mk tys_eq
theorem lps47 (m : Nat) : LoopsOk Go.Proofs.Try.prog (lp47 m) c47 := loopsOk_of c47 (by rw [show loopsOf c47 = [] by kernel_rfl]; intro b hb; cases hb)
def in47 (a : Call) (b : Call) : List S := [S.agg (encCall a), S.agg (encCall b)]
noncomputable def out47 (a : Call) (b : Call) : Res := (S.one (C.bool (eqCall a b)), [S.one C.unk, S.one C.unk])
def pre47 (a : Call) (b : Call) : Prop := True
noncomputable def F47 : List S → Option Res := told (A := Call × Call) (fun a => in47 a.1 a.2) (fun a => pre47 a.1 a.2) (fun a => out47 a.1 a.2)
theorem F47_at (a : Call) (b : Call) : F47 [S.agg (encCall a), S.agg (encCall b)] = some (S.one (C.bool (eqCall a b)), [S.one C.unk, S.one C.unk]) := told_at (A := Call × Call) (enc := fun a => in47 a.1 a.2) (pre := fun a => pre47 a.1 a.2) (out := fun a => out47 a.1 a.2) (a := (a, b)) (by
  intro a b h
  first | (simp [in47] at h; simp [out47, h]; done) | (simp [in47] at h; simp only [← Call.ext_iff] at h; simp [out47, h]; done)) trivial
theorem plain47 (a : Call) (b : Call) (h : True) : ∃ m, m47 m a.push a.v a.ret a.frm a.to b.push b.v b.ret b.frm b.to = some (S.one (C.bool (eqCall a b)), [S.one C.unk, S.one C.unk]) := by
  refine ⟨0, ?_⟩
  simp only [m47, eqCall, bne]
  cases (a.push == b.push) <;> cases (a.v == b.v) <;> cases (a.ret == b.ret) <;> cases (a.frm == b.frm) <;> cases (a.to == b.to) <;> rfl
noncomputable def S47 : Spec := ⟨[.ro, .ro], false, F47⟩
theorem ok47 : SpecOk Go.Proofs.Try.prog 47 S47 := funcL_ok follows et47 es47 Go.Proofs.Try.func47 (c := c47) (by kernel_rfl) (dr := dr47) (by kernel_rfl) (by
  intro xs r hl h
  obtain ⟨a, ha, rfl, rfl⟩ := told_some h
  obtain ⟨m, hm⟩ := plain47 a.1 a.2 ha
  exact ⟨lp47 m, lps47 m, (m47_eq m _ _ _ _ _ _ _ _ _ _).trans hm⟩)
theorem go47 : CalleeOk Go.Proofs.Try.prog 47 S47 := ⟨ok47, _, Go.Proofs.Try.func47, by kernel_rfl, by kernel_rfl⟩
def eqCalls : List Call → List Call → Bool
  | [], [] => true
  | a :: l, b :: l' => eqCall a b && eqCalls l l'
  | _, _ => false
theorem eqCalls_len : ∀ {l l' : List Call}, l.length ≠ l'.length → eqCalls l l' = false
  | [], [], h => absurd rfl h
  | a :: l, b :: l', h => by simp [eqCalls, eqCalls_len (l := l) (l' := l') (by simpa using h)]
  | [], _ :: _, _ => rfl
  | _ :: _, [], _ => rfl
theorem eqCalls_iff : ∀ {l l' : List Call}, eqCalls l l' = true ↔ l = l'
  | [], [] => by simp [eqCalls]
  | a :: l, b :: l' => by simp [eqCalls, eqCall_iff, eqCalls_iff (l := l) (l' := l')]
  | [], _ :: _ => by simp [eqCalls]
  | _ :: _, [] => by simp [eqCalls]
/-! function 15: loop.example/g00712/laws.eqCallS -/
noncomputable def c15 : Code := (Go.Proofs.Try.f15.body).getD .skip
noncomputable def E15 : Env := mkEnv tys [(47, S47)] []
def dr15 : Nat → OT := fun id => bif Nat.beq id 6 then .one 0 (.one 1 (.one 2 (.one 3 (.one 4 (.one 5 (.one 6 (.one 7 (.one 8 (.one 9 .stop))))))))) else .stop
noncomputable def b15_4 : Code := (findLoop 4 c15).getD .skip
noncomputable def L15_4 (m : Nat) (k0 : Bool → Option Res) (k1 : Option Res) (nx : (Option Bool) → (List (List C)) → (Option Bool) → (List (List C)) → Int → Option Res) (v1 : Option Bool) (v2 : List (List C)) (v3 : Option Bool) (v4 : List (List C)) (v5 : Int) : Option Res := bif decide (v5 < (v2.length : Int)) then if 0 ≤ v5 ∧ v5 < (v2.length : Int) then (v2[Int.toNat v5]?).bind fun w1 => (List.head? w1).bind fun c1 => (C.asBool c1).bind fun b1 => (List.head? (List.tail w1)).bind fun c2 => (C.asInt .i64 c2).bind fun n1 => (List.head? (List.tail (List.tail w1))).bind fun c3 => (C.asInt .i64 c3).bind fun n2 => (List.head? (List.tail (List.tail (List.tail w1)))).bind fun c4 => (C.asInt .i64 c4).bind fun n3 => (List.head? (List.tail (List.tail (List.tail (List.tail w1))))).bind fun c5 => (C.asInt .i64 c5).bind fun n4 => if 0 ≤ v5 ∧ v5 < (v4.length : Int) then (v4[Int.toNat v5]?).bind fun w2 => (List.head? w2).bind fun c6 => (C.asBool c6).bind fun b2 => (List.head? (List.tail w2)).bind fun c7 => (C.asInt .i64 c7).bind fun n5 => (List.head? (List.tail (List.tail w2))).bind fun c8 => (C.asInt .i64 c8).bind fun n6 => (List.head? (List.tail (List.tail (List.tail w2)))).bind fun c9 => (C.asInt .i64 c9).bind fun n7 => (List.head? (List.tail (List.tail (List.tail (List.tail w2))))).bind fun c10 => (C.asInt .i64 c10).bind fun n8 => (F47 [S.agg [C.bool b1, C.int n1, C.int n2, C.int n3, C.int n4], S.agg [C.bool b2, C.int n5, C.int n6, C.int n7, C.int n8]]).bind fun r1 => (S.cells? false r1.1).bind fun cs1 => if cs1.length = 1 then (List.head? cs1).bind fun c11 => (C.asBool c11).bind fun b3 => bif !b3 then k0 false else nx v1 v2 v3 v4 (W (v5 + 1)) else none else none else none else k1
noncomputable def R15_4 (m : Nat) (k0 : Bool → Option Res) (k1 : Option Res) (nx : ((Option Bool) × (List (List C)) × (Option Bool) × (List (List C)) × Int) → Option Res) (v : (Option Bool) × (List (List C)) × (Option Bool) × (List (List C)) × Int) : Option Res := L15_4 m k0 k1 (fun v1 v2 v3 v4 v5 => nx (v1, v2, v3, v4, v5)) v.1 v.2.1 v.2.2.1 v.2.2.2.1 v.2.2.2.2
noncomputable def T15_4 (m : Nat) (k0 : Bool → Option Res) (k1 : Option Res) (j : Nat) (v1 : Option Bool) (v2 : List (List C)) (v3 : Option Bool) (v4 : List (List C)) (v5 : Int) : Option Res := iterL (R15_4 m k0 k1) j (v1, v2, v3, v4, v5)
def X15_4_0 (y1 : Bool) : St := headOf 27 [4] ([S.one (C.bool y1)], [])
def X15_4_1 : St := headOf 27 [4] ([S.one (C.unk)], [])
noncomputable def D15_4 (m : Nat) (k : Kx) (ss : List S) (bs : List Box) : Option Res :=
  match ss, bs with
  | [S.one (C.sl false v1 5 v2), S.one (C.sl false v3 5 v4), S.one (C.v (.int .i64 v5))], [] => T15_4 m (fun y1 => k (.ret) (X15_4_0 y1)) (k (.exit 0) X15_4_1) m v1 v2 v3 v4 v5
  | _, _ => none
def H15_4 (v : (Option Bool) × (List (List C)) × (Option Bool) × (List (List C)) × Int) : List S × List Box := (fun (v1 : Option Bool) (v2 : List (List C)) (v3 : Option Bool) (v4 : List (List C)) (v5 : Int) => ([S.one (C.sl false v1 5 v2), S.one (C.sl false v3 5 v4), S.one (C.int v5)], [])) v.1 v.2.1 v.2.2.1 v.2.2.2.1 v.2.2.2.2
noncomputable def lp15 (m : Nat) : Nat → St → Kx → Option Res := fun id σ k => bif Nat.beq id 4 then hand [0, 1, 5] 0 27 (D15_4 m k) σ else none
noncomputable def m15 (m : Nat) (x1 : Option Bool) (x2 : List (List C)) (x3 : Option Bool) (x4 : List (List C)) : Option Res := bif (x2.length : Int) != (x4.length : Int) then some (S.one (C.bool false), [S.one (C.unk), S.one (C.unk)]) else T15_4 m (fun y1 => some (S.one (C.bool y1), [S.one (C.unk), S.one (C.unk)])) (some (S.one (C.bool true), [S.one (C.unk), S.one (C.unk)])) m x1 x2 x3 x4 0
theorem m15_eq (m : Nat) (x1 : Option Bool) (x2 : List (List C)) (x3 : Option Bool) (x4 : List (List C)) : funcL E15 dr15 (lp15 m) false [.ro, .ro] c15 Go.Proofs.Try.f15.ntmps Go.Proofs.Try.f15.results.toList [S.one (C.sl false x1 5 x2), S.one (C.sl false x3 5 x4)] = m15 m x1 x2 x3 x4 := by
  unfold m15
  kernel_rfl
theorem st15_4 (m : Nat) (k : Kx) (Kn : St → Option Res) (v : (Option Bool) × (List (List C)) × (Option Bool) × (List (List C)) × Int) : codeL E15 dr15 (lp15 m) b15_4 (headOf 27 [0, 1, 5] (H15_4 v)) (fun e σ' => match e with | .normal => forgetK [0, 1, 5] 0 σ' Kn | e => k e (σ'.only [4])) = R15_4 m (fun y1 => k (.ret) (X15_4_0 y1)) (k (.exit 0) X15_4_1) (fun v' => Kn (headOf 27 [0, 1, 5] (H15_4 v'))) v := by
  unfold R15_4 L15_4
  kernel_rfl
theorem es15 : EnvSpec Go.Proofs.Try.prog E15 := envSpec_of (specsOk_cons go47 specsOk_nil)
theorem et15 : EnvTy Go.Proofs.Try.prog E15 := envTy_mk tys_eq
theorem lok15_4 (m : Nat) : LoopOk Go.Proofs.Try.prog b15_4 (lp15 m (firstRegion b15_4)) := loop_ok (dr := dr15) (lp := lp15 m) (kp := [0, 1, 5]) (lv := [4]) follows et15 es15 (by kernel_rfl) (loopsOk_of b15_4 (by
  rw [show loopsOf b15_4 = [] by kernel_rfl]
  intro b hb
  cases hb)) (by
  intro σ k r h
  have h' : hand [0, 1, 5] 0 27 (D15_4 m k) σ = some r := h
  refine hand_ok (V := (Option Bool) × (List (List C)) × (Option Bool) × (List (List C)) × Int) (enc := H15_4) (fb := fun k => R15_4 m (fun y1 => k (.ret) (X15_4_0 y1)) (k (.exit 0) X15_4_1)) ?_ (fun k Kn v => st15_4 m k Kn v) σ k r h'
  intro k ss bs r h
  unfold D15_4 at h
  split at h
  · exact ⟨(_, _, _, _, _), m, rfl, h⟩
  · cases h)
theorem lps15 (m : Nat) : LoopsOk Go.Proofs.Try.prog (lp15 m) c15 := loopsOk_of c15 (by
  rw [show loopsOf c15 = [b15_4] by kernel_rfl]
  intro b hb
  simp only [List.mem_cons, List.not_mem_nil, or_false] at hb
  rcases hb with rfl
  · exact lok15_4 m)
def in15 (nl : Option Bool) (l : List Call) (nl' : Option Bool) (l' : List Call) : List S := [S.one (C.sl false nl 5 (l.map encCall)), S.one (C.sl false nl' 5 (l'.map encCall))]
noncomputable def out15 (nl : Option Bool) (l : List Call) (nl' : Option Bool) (l' : List Call) : Res := (S.one (C.bool (eqCalls l l')), [S.one C.unk, S.one C.unk])
def pre15 (nl : Option Bool) (l : List Call) (nl' : Option Bool) (l' : List Call) : Prop := l.length ≤ 1048576
noncomputable def F15 : List S → Option Res := told (A := (Option Bool) × (List Call) × (Option Bool) × (List Call)) (fun a => in15 a.1 a.2.1 a.2.2.1 a.2.2.2) (fun a => pre15 a.1 a.2.1 a.2.2.1 a.2.2.2) (fun a => out15 a.1 a.2.1 a.2.2.1 a.2.2.2)
theorem F15_at (nl : Option Bool) (l : List Call) (nl' : Option Bool) (l' : List Call) (h : l.length ≤ 1048576) : F15 [S.one (C.sl false nl 5 (l.map encCall)), S.one (C.sl false nl' 5 (l'.map encCall))] = some (S.one (C.bool (eqCalls l l')), [S.one C.unk, S.one C.unk]) := told_at (A := (Option Bool) × (List Call) × (Option Bool) × (List Call)) (enc := fun a => in15 a.1 a.2.1 a.2.2.1 a.2.2.2) (pre := fun a => pre15 a.1 a.2.1 a.2.2.1 a.2.2.2) (out := fun a => out15 a.1 a.2.1 a.2.2.1 a.2.2.2) (a := (nl, l, nl', l')) (by
  intro a b h
  first | (simp [in15] at h; simp [out15, h]; done) | (simp [in15] at h; simp only [← Call.ext_iff] at h; simp [out15, h]; done)) h
theorem plain15 (nl : Option Bool) (l : List Call) (nl' : Option Bool) (l' : List Call) (h : l.length ≤ 1048576) : ∃ m, m15 m nl (l.map encCall) nl' (l'.map encCall) = some (S.one (C.bool (eqCalls l l')), [S.one C.unk, S.one C.unk]) := by
  refine ⟨l.length + 1, ?_⟩
  have key : ∀ (rest rest' pre pre' : List Call) (j : Nat), rest.length < j → rest.length = rest'.length → pre.length = pre'.length → pre.length + rest.length ≤ 1048576 → T15_4 (l.length + 1) (fun y1 => some (S.one (C.bool y1), [S.one C.unk, S.one C.unk])) (some (S.one (C.bool true), [S.one C.unk, S.one C.unk])) j nl ((pre ++ rest).map encCall) nl' ((pre' ++ rest').map encCall) (pre.length : Int) = some (S.one (C.bool (eqCalls rest rest')), [S.one C.unk, S.one C.unk]) := by
    intro rest
    induction rest with
    | nil =>
      intro rest' pre pre' j hj hr hp _
      obtain ⟨j, rfl⟩ : ∃ k, j = k + 1 := ⟨j - 1, by omega⟩
      have : rest' = [] := List.eq_nil_of_length_eq_zero hr.symm
      subst this
      simp [T15_4, iterL, R15_4, L15_4, eqCalls]
    | cons c rest ih =>
      intro rest' pre pre' j hj hr hp hl
      obtain ⟨j, rfl⟩ : ∃ k, j = k + 1 := ⟨j - 1, by omega⟩
      match rest', hr with
      | c' :: rest', hr =>
        simp only [List.length_cons] at hj hl hr
        have ih' := ih rest' (pre ++ [c]) (pre' ++ [c']) j (by omega) (by omega) (by simp [hp]) (by simp; omega)
        simp only [T15_4, iterL, R15_4, L15_4] at ih' ⊢
        simp only [List.append_assoc, List.singleton_append, List.length_append, List.length_cons, List.length_nil, Nat.zero_add, List.map_append, List.map_cons, List.map_nil] at ih'
        have hb : (pre.length : Int) < (pre'.length : Int) + ((rest'.length : Int) + 1) := by omega
        simp [F47_at, eqCalls, hp, hb]
        cases hc : eqCall c c' with
        | false => simp
        | true =>
          rw [hp] at ih'
          rw [W_succ (i := pre'.length) (by omega)]
          simpa using ih'
  by_cases hl : l.length = l'.length
  · have := key l l' [] [] (l.length + 1) (by omega) hl rfl (by simpa using h)
    simpa [m15, hl] using this
  · rw [eqCalls_len hl]
    have hb : ((l.length : Int) != (l'.length : Int)) = true := by simp; omega
    simp [m15, hb]
noncomputable def S15 : Spec := ⟨[.ro, .ro], false, F15⟩
theorem ok15 : SpecOk Go.Proofs.Try.prog 15 S15 := funcL_ok follows et15 es15 Go.Proofs.Try.func15 (c := c15) (by kernel_rfl) (dr := dr15) (by kernel_rfl) (by
  intro xs r hl h
  obtain ⟨a, ha, rfl, rfl⟩ := told_some h
  obtain ⟨m, hm⟩ := plain15 a.1 a.2.1 a.2.2.1 a.2.2.2 ha
  exact ⟨lp15 m, lps15 m, (m15_eq m _ _ _ _).trans hm⟩)
theorem go15 : CalleeOk Go.Proofs.Try.prog 15 S15 := ⟨ok15, _, Go.Proofs.Try.func15, by kernel_rfl, by kernel_rfl⟩
/-- What is marked: the counter goes on by five. -/
def markCalls : List Call → Int → List Call
  | [], _ => []
  | _ :: l, k => ⟨k.tmod 3 == 0, k + 1, k + 2, k + 3, k + 4⟩ :: markCalls l (k + 5)
theorem markCalls_length : ∀ (l : List Call) (k : Int), (markCalls l k).length = l.length
  | [], _ => rfl
  | _ :: l, k => by simp [markCalls, markCalls_length l]
theorem tmod3 (k : Int) (h : 0 ≤ k) : k.tmod 3 = k % 3 := Int.tmod_eq_emod_of_nonneg h
/-! function 18: loop.example/g00712/laws.markCallS -/
noncomputable def c18 : Code := (Go.Proofs.Try.f18.body).getD .skip
noncomputable def E18 : Env := mkEnv tys [] []
def dr18 : Nat → OT := fun _ => .stop
noncomputable def b18_2 : Code := (findLoop 2 c18).getD .skip
noncomputable def L18_2 (m : Nat) (k0 : Int → (Option Bool) → (List (List C)) → Option Res) (nx : Int → Int → (Option Bool) → (List (List C)) → Option Res) (v1 : Int) (v2 : Int) (v3 : Option Bool) (v4 : List (List C)) : Option Res := bif decide (v2 < (v4.length : Int)) then if 0 ≤ v2 ∧ v2 < (v4.length : Int) then (v4[Int.toNat v2]?).bind fun w1 => (w1[0]?).bind fun c1 => (C.asBool c1).bind fun b1 => (let e1 : List (List C) := List.modify v4 (Int.toNat v2) fun row => row.modify 0 (plant [] (C.bool (Int.tmod v1 3 == 0))); if 0 ≤ v2 ∧ v2 < (e1.length : Int) then (e1[Int.toNat v2]?).bind fun w2 => (w2[1]?).bind fun c2 => (C.asInt .i64 c2).bind fun n1 => (let e2 : List (List C) := List.modify e1 (Int.toNat v2) fun row => row.modify 1 (plant [] (C.int (W (v1 + 1)))); if 0 ≤ v2 ∧ v2 < (e2.length : Int) then (e2[Int.toNat v2]?).bind fun w3 => (w3[2]?).bind fun c3 => (C.asInt .i64 c3).bind fun n2 => (let e3 : List (List C) := List.modify e2 (Int.toNat v2) fun row => row.modify 2 (plant [] (C.int (W ((W (v1 + 1)) + 1)))); if 0 ≤ v2 ∧ v2 < (e3.length : Int) then (e3[Int.toNat v2]?).bind fun w4 => (w4[3]?).bind fun c4 => (C.asInt .i64 c4).bind fun n3 => (let e4 : List (List C) := List.modify e3 (Int.toNat v2) fun row => row.modify 3 (plant [] (C.int (W ((W ((W (v1 + 1)) + 1)) + 1)))); if 0 ≤ v2 ∧ v2 < (e4.length : Int) then (e4[Int.toNat v2]?).bind fun w5 => (w5[4]?).bind fun c5 => (C.asInt .i64 c5).bind fun n4 => (let e5 : List (List C) := List.modify e4 (Int.toNat v2) fun row => row.modify 4 (plant [] (C.int (W ((W ((W ((W (v1 + 1)) + 1)) + 1)) + 1)))); nx (W ((W ((W ((W ((W (v1 + 1)) + 1)) + 1)) + 1)) + 1)) (W (v2 + 1)) v3 e5) else none) else none) else none) else none) else none else k0 v1 v3 v4
noncomputable def R18_2 (m : Nat) (k0 : Int → (Option Bool) → (List (List C)) → Option Res) (nx : (Int × Int × (Option Bool) × (List (List C))) → Option Res) (v : Int × Int × (Option Bool) × (List (List C))) : Option Res := L18_2 m k0 (fun v1 v2 v3 v4 => nx (v1, v2, v3, v4)) v.1 v.2.1 v.2.2.1 v.2.2.2
noncomputable def T18_2 (m : Nat) (k0 : Int → (Option Bool) → (List (List C)) → Option Res) (j : Nat) (v1 : Int) (v2 : Int) (v3 : Option Bool) (v4 : List (List C)) : Option Res := iterL (R18_2 m k0) j (v1, v2, v3, v4)
def X18_2_0 (y1 : Int) (y2 : Option Bool) (y3 : List (List C)) : St := headOf 50 [1] ([S.one (C.int y1)], [⟨false, [C.sl true y2 5 y3]⟩])
noncomputable def D18_2 (m : Nat) (k : Kx) (ss : List S) (bs : List Box) : Option Res :=
  match ss, bs with
  | [S.one (C.al ⟨0, 0, []⟩), S.one (C.v (.int .i64 v1)), S.one (C.v (.int .i64 v2))], [⟨false, [C.sl true v3 5 v4]⟩] => T18_2 m (fun y1 y2 y3 => k (.exit 0) (X18_2_0 y1 y2 y3)) m v1 v2 v3 v4
  | _, _ => none
def H18_2 (v : Int × Int × (Option Bool) × (List (List C))) : List S × List Box := (fun (v1 : Int) (v2 : Int) (v3 : Option Bool) (v4 : List (List C)) => ([S.one (C.al ⟨0, 0, []⟩), S.one (C.int v1), S.one (C.int v2)], [⟨false, [C.sl true v3 5 v4]⟩])) v.1 v.2.1 v.2.2.1 v.2.2.2
noncomputable def lp18 (m : Nat) : Nat → St → Kx → Option Res := fun id σ k => bif Nat.beq id 2 then hand [0, 1, 5] 1 50 (D18_2 m k) σ else none
noncomputable def m18 (m : Nat) (x1 : Option Bool) (x2 : List (List C)) (x3 : Int) : Option Res := T18_2 m (fun y1 y2 y3 => if (([S.one (C.int y1)].all (S.leaves false) && [S.one (C.sl true y2 5 y3), S.one (C.unk)].all (S.leaves false)) && lensOk [S.one (C.sl true x1 5 x2), S.one (C.int x3)] [S.one (C.sl true y2 5 y3), S.one (C.unk)]) = true then some (S.one (C.int y1), [S.one (C.sl true y2 5 y3), S.one (C.unk)]) else none) m x3 0 x1 x2
theorem m18_eq (m : Nat) (x1 : Option Bool) (x2 : List (List C)) (x3 : Int) : funcL E18 dr18 (lp18 m) false [.io, .ro] c18 Go.Proofs.Try.f18.ntmps Go.Proofs.Try.f18.results.toList [S.one (C.sl true x1 5 x2), S.one (C.int x3)] = m18 m x1 x2 x3 := by
  unfold m18
  kernel_rfl
theorem st18_2 (m : Nat) (k : Kx) (Kn : St → Option Res) (v : Int × Int × (Option Bool) × (List (List C))) : codeL E18 dr18 (lp18 m) b18_2 (headOf 50 [0, 1, 5] (H18_2 v)) (fun e σ' => match e with | .normal => forgetK [0, 1, 5] 1 σ' Kn | e => k e (σ'.only [1])) = R18_2 m (fun y1 y2 y3 => k (.exit 0) (X18_2_0 y1 y2 y3)) (fun v' => Kn (headOf 50 [0, 1, 5] (H18_2 v'))) v := by
  unfold R18_2 L18_2
  kernel_rfl
theorem es18 : EnvSpec Go.Proofs.Try.prog E18 := envSpec_of (specsOk_nil)
theorem et18 : EnvTy Go.Proofs.Try.prog E18 := envTy_mk tys_eq
theorem lok18_2 (m : Nat) : LoopOk Go.Proofs.Try.prog b18_2 (lp18 m (firstRegion b18_2)) := loop_ok (dr := dr18) (lp := lp18 m) (kp := [0, 1, 5]) (lv := [1]) follows et18 es18 (by kernel_rfl) (loopsOk_of b18_2 (by
  rw [show loopsOf b18_2 = [] by kernel_rfl]
  intro b hb
  cases hb)) (by
  intro σ k r h
  have h' : hand [0, 1, 5] 1 50 (D18_2 m k) σ = some r := h
  refine hand_ok (V := Int × Int × (Option Bool) × (List (List C))) (enc := H18_2) (fb := fun k => R18_2 m (fun y1 y2 y3 => k (.exit 0) (X18_2_0 y1 y2 y3))) ?_ (fun k Kn v => st18_2 m k Kn v) σ k r h'
  intro k ss bs r h
  unfold D18_2 at h
  split at h
  · exact ⟨(_, _, _, _), m, rfl, h⟩
  · cases h)
theorem lps18 (m : Nat) : LoopsOk Go.Proofs.Try.prog (lp18 m) c18 := loopsOk_of c18 (by
  rw [show loopsOf c18 = [b18_2] by kernel_rfl]
  intro b hb
  simp only [List.mem_cons, List.not_mem_nil, or_false] at hb
  rcases hb with rfl
  · exact lok18_2 m)
def in18 (nl : Option Bool) (l : List Call) (k : Int) : List S := [S.one (C.sl true nl 5 (l.map encCall)), S.one (C.int k)]
noncomputable def out18 (nl : Option Bool) (l : List Call) (k : Int) : Res := (S.one (C.int (k + 5 * l.length)), [S.one (C.sl true nl 5 ((markCalls l k).map encCall)), S.one C.unk])
def pre18 (nl : Option Bool) (l : List Call) (k : Int) : Prop := l.length ≤ 1048576 ∧ 0 ≤ k ∧ k ≤ 1000000000000
noncomputable def F18 : List S → Option Res := told (A := (Option Bool) × (List Call) × Int) (fun a => in18 a.1 a.2.1 a.2.2) (fun a => pre18 a.1 a.2.1 a.2.2) (fun a => out18 a.1 a.2.1 a.2.2)
theorem F18_at (nl : Option Bool) (l : List Call) (k : Int) (h : l.length ≤ 1048576 ∧ 0 ≤ k ∧ k ≤ 1000000000000) : F18 [S.one (C.sl true nl 5 (l.map encCall)), S.one (C.int k)] = some (S.one (C.int (k + 5 * l.length)), [S.one (C.sl true nl 5 ((markCalls l k).map encCall)), S.one C.unk]) := told_at (A := (Option Bool) × (List Call) × Int) (enc := fun a => in18 a.1 a.2.1 a.2.2) (pre := fun a => pre18 a.1 a.2.1 a.2.2) (out := fun a => out18 a.1 a.2.1 a.2.2) (a := (nl, l, k)) (by
  intro a b h
  first | (simp [in18] at h; simp [out18, h]; done) | (simp [in18] at h; simp only [← Call.ext_iff] at h; simp [out18, h]; done)) h
theorem plain18 (nl : Option Bool) (l : List Call) (k : Int) (h : l.length ≤ 1048576 ∧ 0 ≤ k ∧ k ≤ 1000000000000) : ∃ m, m18 m nl (l.map encCall) k = some (S.one (C.int (k + 5 * l.length)), [S.one (C.sl true nl 5 ((markCalls l k).map encCall)), S.one C.unk]) := by
  refine ⟨l.length + 1, ?_⟩
  have key : ∀ (k0 : Int → Option Bool → List (List C) → Option Res) (rest pre : List Call) (k : Int) (j : Nat), rest.length < j → pre.length + rest.length ≤ 1048576 → 0 ≤ k → k + 5 * rest.length ≤ 1000006000000 → T18_2 (l.length + 1) k0 j k (pre.length : Int) nl ((pre ++ rest).map encCall) = k0 (k + 5 * rest.length) nl ((pre ++ markCalls rest k).map encCall) := by
    intro k0 rest
    induction rest with
    | nil =>
      intro pre k j hj _ _ _
      obtain ⟨j, rfl⟩ : ∃ k, j = k + 1 := ⟨j - 1, by omega⟩
      simp [T18_2, iterL, R18_2, L18_2, markCalls]
    | cons c rest ih =>
      intro pre k j hj hl hk0 hk1
      obtain ⟨j, rfl⟩ : ∃ k, j = k + 1 := ⟨j - 1, by omega⟩
      simp only [List.length_cons] at hj hl hk1
      have ih' := ih (pre ++ [⟨k.tmod 3 == 0, k + 1, k + 2, k + 3, k + 4⟩]) (k + 5) j (by omega) (by simp; omega) (by omega) (by omega)
      simp only [T18_2, iterL, R18_2, L18_2] at ih' ⊢
      simp only [List.append_assoc, List.singleton_append, List.length_append, List.length_cons, List.length_nil, Nat.zero_add, List.map_append, List.map_cons, List.map_nil] at ih'
      have h1 : W (k + 1) = k + 1 := W_eq (by omega) (by omega)
      have h2 : W (k + 1 + 1) = k + 2 := by rw [W_eq (by omega) (by omega)]; omega
      have h3 : W (k + 2 + 1) = k + 3 := by rw [W_eq (by omega) (by omega)]; omega
      have h4 : W (k + 3 + 1) = k + 4 := by rw [W_eq (by omega) (by omega)]; omega
      have h5 : W (k + 4 + 1) = k + 5 := by rw [W_eq (by omega) (by omega)]; omega
      simp only [h1, h2, h3, h4, h5, W_succ (i := pre.length) (show pre.length < 4611686018427387904 by omega)]
      simp [plant, markCalls]
      rw [show k + 5 * ((rest.length : Int) + 1) = k + 5 + 5 * (rest.length : Int) by omega]
      simpa using ih'
  obtain ⟨h1, h2, h3⟩ := h
  have := key (fun y1 y2 y3 => if (([S.one (C.int y1)].all (S.leaves false) && [S.one (C.sl true y2 5 y3), S.one (C.unk)].all (S.leaves false)) && lensOk [S.one (C.sl true nl 5 (l.map encCall)), S.one (C.int k)] [S.one (C.sl true y2 5 y3), S.one (C.unk)]) = true then some (S.one (C.int y1), [S.one (C.sl true y2 5 y3), S.one (C.unk)]) else none) l [] k (l.length + 1) (by omega) (by simpa using h1) h2 (by omega)
  simpa [m18, S.leaves, C.leaves, C.nested, C.free, lensOk] using this
noncomputable def S18 : Spec := ⟨[.io, .ro], false, F18⟩
theorem ok18 : SpecOk Go.Proofs.Try.prog 18 S18 := funcL_ok follows et18 es18 Go.Proofs.Try.func18 (c := c18) (by kernel_rfl) (dr := dr18) (by kernel_rfl) (by
  intro xs r hl h
  obtain ⟨a, ha, rfl, rfl⟩ := told_some h
  obtain ⟨m, hm⟩ := plain18 a.1 a.2.1 a.2.2 ha
  exact ⟨lp18 m, lps18 m, (m18_eq m _ _ _).trans hm⟩)
theorem go18 : CalleeOk Go.Proofs.Try.prog 18 S18 := ⟨ok18, _, Go.Proofs.Try.func18, by kernel_rfl, by kernel_rfl⟩
/-- Are the marks there still? -/
def heldCalls : List Call → Int → Int
  | [], k => k
  | c :: l, k => if c = ⟨k.tmod 3 == 0, k + 1, k + 2, k + 3, k + 4⟩ then heldCalls l (k + 5) else -1
theorem heldCalls_mark : ∀ (l : List Call) (k : Int), heldCalls (markCalls l k) k = k + 5 * l.length
  | [], k => by simp [heldCalls, markCalls]
  | _ :: l, k => by simp [heldCalls, markCalls, heldCalls_mark l]; omega
/-! function 19: loop.example/g00712/laws.heldCallS -/
noncomputable def c19 : Code := (Go.Proofs.Try.f19.body).getD .skip
noncomputable def E19 : Env := mkEnv tys [] []
def dr19 : Nat → OT := fun _ => .stop
noncomputable def b19_2 : Code := (findLoop 2 c19).getD .skip
noncomputable def L19_2 (m : Nat) (k0 : Int → Int → Option Res) (k1 : Int → Option Res) (nx : (Option Bool) → (List (List C)) → Int → Int → Option Res) (v1 : Option Bool) (v2 : List (List C)) (v3 : Int) (v4 : Int) : Option Res := bif decide (v4 < (v2.length : Int)) then if 0 ≤ v4 ∧ v4 < (v2.length : Int) then (v2[Int.toNat v4]?).bind fun w1 => (List.head? w1).bind fun c1 => (C.asBool c1).bind fun b1 => bif !(b1 == (Int.tmod v3 3 == 0)) then k0 v3 (-1) else if 0 ≤ v4 ∧ v4 < (v2.length : Int) then (v2[Int.toNat v4]?).bind fun w2 => (List.head? (List.drop 1 w2)).bind fun c2 => (C.asInt .i64 c2).bind fun n1 => bif n1 != W (v3 + 1) then k0 (W (v3 + 1)) (-1) else if 0 ≤ v4 ∧ v4 < (v2.length : Int) then (v2[Int.toNat v4]?).bind fun w3 => (List.head? (List.drop 2 w3)).bind fun c3 => (C.asInt .i64 c3).bind fun n2 => bif n2 != W ((W (v3 + 1)) + 1) then k0 (W ((W (v3 + 1)) + 1)) (-1) else if 0 ≤ v4 ∧ v4 < (v2.length : Int) then (v2[Int.toNat v4]?).bind fun w4 => (List.head? (List.drop 3 w4)).bind fun c4 => (C.asInt .i64 c4).bind fun n3 => bif n3 != W ((W ((W (v3 + 1)) + 1)) + 1) then k0 (W ((W ((W (v3 + 1)) + 1)) + 1)) (-1) else if 0 ≤ v4 ∧ v4 < (v2.length : Int) then (v2[Int.toNat v4]?).bind fun w5 => (List.head? (List.drop 4 w5)).bind fun c5 => (C.asInt .i64 c5).bind fun n4 => bif n4 != W ((W ((W ((W (v3 + 1)) + 1)) + 1)) + 1) then k0 (W ((W ((W ((W (v3 + 1)) + 1)) + 1)) + 1)) (-1) else nx v1 v2 (W ((W ((W ((W ((W (v3 + 1)) + 1)) + 1)) + 1)) + 1)) (W (v4 + 1)) else none else none else none else none else none else k1 v3
noncomputable def R19_2 (m : Nat) (k0 : Int → Int → Option Res) (k1 : Int → Option Res) (nx : ((Option Bool) × (List (List C)) × Int × Int) → Option Res) (v : (Option Bool) × (List (List C)) × Int × Int) : Option Res := L19_2 m k0 k1 (fun v1 v2 v3 v4 => nx (v1, v2, v3, v4)) v.1 v.2.1 v.2.2.1 v.2.2.2
noncomputable def T19_2 (m : Nat) (k0 : Int → Int → Option Res) (k1 : Int → Option Res) (j : Nat) (v1 : Option Bool) (v2 : List (List C)) (v3 : Int) (v4 : Int) : Option Res := iterL (R19_2 m k0 k1) j (v1, v2, v3, v4)
def X19_2_0 (y1 : Int) (y2 : Int) : St := headOf 60 [1, 4] ([S.one (C.int y1), S.one (C.int y2)], [])
def X19_2_1 (y1 : Int) : St := headOf 60 [1, 4] ([S.one (C.int y1), S.one (C.unk)], [])
noncomputable def D19_2 (m : Nat) (k : Kx) (ss : List S) (bs : List Box) : Option Res :=
  match ss, bs with
  | [S.one (C.sl false v1 5 v2), S.one (C.v (.int .i64 v3)), S.one (C.v (.int .i64 v4))], [] => T19_2 m (fun y1 y2 => k (.ret) (X19_2_0 y1 y2)) (fun y1 => k (.exit 0) (X19_2_1 y1)) m v1 v2 v3 v4
  | _, _ => none
def H19_2 (v : (Option Bool) × (List (List C)) × Int × Int) : List S × List Box := (fun (v1 : Option Bool) (v2 : List (List C)) (v3 : Int) (v4 : Int) => ([S.one (C.sl false v1 5 v2), S.one (C.int v3), S.one (C.int v4)], [])) v.1 v.2.1 v.2.2.1 v.2.2.2
noncomputable def lp19 (m : Nat) : Nat → St → Kx → Option Res := fun id σ k => bif Nat.beq id 2 then hand [0, 1, 5] 0 60 (D19_2 m k) σ else none
noncomputable def m19 (m : Nat) (x1 : Option Bool) (x2 : List (List C)) (x3 : Int) : Option Res := T19_2 m (fun y1 y2 => some (S.one (C.int y2), [S.one (C.unk), S.one (C.unk)])) (fun y3 => some (S.one (C.int y3), [S.one (C.unk), S.one (C.unk)])) m x1 x2 x3 0
theorem m19_eq (m : Nat) (x1 : Option Bool) (x2 : List (List C)) (x3 : Int) : funcL E19 dr19 (lp19 m) false [.ro, .ro] c19 Go.Proofs.Try.f19.ntmps Go.Proofs.Try.f19.results.toList [S.one (C.sl false x1 5 x2), S.one (C.int x3)] = m19 m x1 x2 x3 := by
  unfold m19
  kernel_rfl
theorem st19_2 (m : Nat) (k : Kx) (Kn : St → Option Res) (v : (Option Bool) × (List (List C)) × Int × Int) : codeL E19 dr19 (lp19 m) b19_2 (headOf 60 [0, 1, 5] (H19_2 v)) (fun e σ' => match e with | .normal => forgetK [0, 1, 5] 0 σ' Kn | e => k e (σ'.only [1, 4])) = R19_2 m (fun y1 y2 => k (.ret) (X19_2_0 y1 y2)) (fun y1 => k (.exit 0) (X19_2_1 y1)) (fun v' => Kn (headOf 60 [0, 1, 5] (H19_2 v'))) v := by
  unfold R19_2 L19_2
  kernel_rfl
theorem es19 : EnvSpec Go.Proofs.Try.prog E19 := envSpec_of (specsOk_nil)
theorem et19 : EnvTy Go.Proofs.Try.prog E19 := envTy_mk tys_eq
theorem lok19_2 (m : Nat) : LoopOk Go.Proofs.Try.prog b19_2 (lp19 m (firstRegion b19_2)) := loop_ok (dr := dr19) (lp := lp19 m) (kp := [0, 1, 5]) (lv := [1, 4]) follows et19 es19 (by kernel_rfl) (loopsOk_of b19_2 (by
  rw [show loopsOf b19_2 = [] by kernel_rfl]
  intro b hb
  cases hb)) (by
  intro σ k r h
  have h' : hand [0, 1, 5] 0 60 (D19_2 m k) σ = some r := h
  refine hand_ok (V := (Option Bool) × (List (List C)) × Int × Int) (enc := H19_2) (fb := fun k => R19_2 m (fun y1 y2 => k (.ret) (X19_2_0 y1 y2)) (fun y1 => k (.exit 0) (X19_2_1 y1))) ?_ (fun k Kn v => st19_2 m k Kn v) σ k r h'
  intro k ss bs r h
  unfold D19_2 at h
  split at h
  · exact ⟨(_, _, _, _), m, rfl, h⟩
  · cases h)
theorem lps19 (m : Nat) : LoopsOk Go.Proofs.Try.prog (lp19 m) c19 := loopsOk_of c19 (by
  rw [show loopsOf c19 = [b19_2] by kernel_rfl]
  intro b hb
  simp only [List.mem_cons, List.not_mem_nil, or_false] at hb
  rcases hb with rfl
  · exact lok19_2 m)
def in19 (nl : Option Bool) (l : List Call) (k : Int) : List S := [S.one (C.sl false nl 5 (l.map encCall)), S.one (C.int k)]
noncomputable def out19 (nl : Option Bool) (l : List Call) (k : Int) : Res := (S.one (C.int (heldCalls l k)), [S.one C.unk, S.one C.unk])
def pre19 (nl : Option Bool) (l : List Call) (k : Int) : Prop := l.length ≤ 1048576 ∧ 0 ≤ k ∧ k ≤ 1000000000000
noncomputable def F19 : List S → Option Res := told (A := (Option Bool) × (List Call) × Int) (fun a => in19 a.1 a.2.1 a.2.2) (fun a => pre19 a.1 a.2.1 a.2.2) (fun a => out19 a.1 a.2.1 a.2.2)
theorem F19_at (nl : Option Bool) (l : List Call) (k : Int) (h : l.length ≤ 1048576 ∧ 0 ≤ k ∧ k ≤ 1000000000000) : F19 [S.one (C.sl false nl 5 (l.map encCall)), S.one (C.int k)] = some (S.one (C.int (heldCalls l k)), [S.one C.unk, S.one C.unk]) := told_at (A := (Option Bool) × (List Call) × Int) (enc := fun a => in19 a.1 a.2.1 a.2.2) (pre := fun a => pre19 a.1 a.2.1 a.2.2) (out := fun a => out19 a.1 a.2.1 a.2.2) (a := (nl, l, k)) (by
  intro a b h
  first | (simp [in19] at h; simp [out19, h]; done) | (simp [in19] at h; simp only [← Call.ext_iff] at h; simp [out19, h]; done)) h
theorem plain19 (nl : Option Bool) (l : List Call) (k : Int) (h : l.length ≤ 1048576 ∧ 0 ≤ k ∧ k ≤ 1000000000000) : ∃ m, m19 m nl (l.map encCall) k = some (S.one (C.int (heldCalls l k)), [S.one C.unk, S.one C.unk]) := by
  refine ⟨l.length + 1, ?_⟩
  have key : ∀ (rest pre : List Call) (k : Int) (j : Nat), rest.length < j → pre.length + rest.length ≤ 1048576 → 0 ≤ k → k + 5 * rest.length ≤ 1000006000000 → T19_2 (l.length + 1) (fun y1 y2 => some (S.one (C.int y2), [S.one C.unk, S.one C.unk])) (fun y3 => some (S.one (C.int y3), [S.one C.unk, S.one C.unk])) j nl ((pre ++ rest).map encCall) k (pre.length : Int) = some (S.one (C.int (heldCalls rest k)), [S.one C.unk, S.one C.unk]) := by
    intro rest
    induction rest with
    | nil =>
      intro pre k j hj _ _ _
      obtain ⟨j, rfl⟩ : ∃ k, j = k + 1 := ⟨j - 1, by omega⟩
      simp [T19_2, iterL, R19_2, L19_2, heldCalls]
    | cons c rest ih =>
      intro pre k j hj hl hk0 hk1
      obtain ⟨j, rfl⟩ : ∃ k, j = k + 1 := ⟨j - 1, by omega⟩
      simp only [List.length_cons] at hj hl hk1
      have ih' := ih (pre ++ [c]) (k + 5) j (by omega) (by simp; omega) (by omega) (by omega)
      simp only [T19_2, iterL, R19_2, L19_2] at ih' ⊢
      simp only [List.append_assoc, List.singleton_append, List.length_append, List.length_cons, List.length_nil, Nat.zero_add, List.map_append, List.map_cons, List.map_nil] at ih'
      have h1 : W (k + 1) = k + 1 := W_eq (by omega) (by omega)
      have h2 : W (k + 1 + 1) = k + 2 := by rw [W_eq (by omega) (by omega)]; omega
      have h3 : W (k + 2 + 1) = k + 3 := by rw [W_eq (by omega) (by omega)]; omega
      have h4 : W (k + 3 + 1) = k + 4 := by rw [W_eq (by omega) (by omega)]; omega
      have h5 : W (k + 4 + 1) = k + 5 := by rw [W_eq (by omega) (by omega)]; omega
      simp only [h1, h2, h3, h4, h5, W_succ (i := pre.length) (show pre.length < 4611686018427387904 by omega)]
      obtain ⟨c1, c2, c3, c4, c5⟩ := c
      simp only [heldCalls, Call.mk.injEq]
      simp [bne]
      generalize (k.tmod 3 == 0) = b
      by_cases e2 : c2 = k + 1 <;> by_cases e3 : c3 = k + 2 <;> by_cases e4 : c4 = k + 3 <;> by_cases e5 : c5 = k + 4 <;> first | (cases c1 <;> cases b <;> simp [Bool.cond_eq_ite, e2, e3, e4, e5]; done) | skip
      subst e2 e3 e4 e5
      cases c1 <;> cases b <;> first | (simp; done) | simpa using ih'
  obtain ⟨h1, h2, h3⟩ := h
  have := key l [] k (l.length + 1) (by omega) (by simpa using h1) h2 (by omega)
  simpa [m19] using this
noncomputable def S19 : Spec := ⟨[.ro, .ro], false, F19⟩
theorem ok19 : SpecOk Go.Proofs.Try.prog 19 S19 := funcL_ok follows et19 es19 Go.Proofs.Try.func19 (c := c19) (by kernel_rfl) (dr := dr19) (by kernel_rfl) (by
  intro xs r hl h
  obtain ⟨a, ha, rfl, rfl⟩ := told_some h
  obtain ⟨m, hm⟩ := plain19 a.1 a.2.1 a.2.2 ha
  exact ⟨lp19 m, lps19 m, (m19_eq m _ _ _).trans hm⟩)
theorem go19 : CalleeOk Go.Proofs.Try.prog 19 S19 := ⟨ok19, _, Go.Proofs.Try.func19, by kernel_rfl, by kernel_rfl⟩
end Go.Proofs.Gh.Gm
