/- The program's functions by the ghost evaluator: what each computes, and that it does. -/
import Derived.Test.YtbapnhdmhbkbpaaGh43
import Derived.Test.YtbapnhdmhbkbpaaProg
import Derived.KernelRfl
import Derived.Test.YtbapnhdmhbkbpaaGa
set_option linter.unusedVariables false
set_option linter.unusedSimpArgs false
set_option maxRecDepth 100000
namespace Go.Proofs.Gh.Gm

def tys_2 : List (Nat × TI) := [(3, ⟨false, 8, [.int .i64], [C.int 0], .scalar, false⟩),
  (4, ⟨false, 1, [.bool], [C.bool false], .scalar, false⟩),
  (25, ⟨false, 24, [.sl 5], [C.sl true (some true) 5 []], .slice 56, false⟩),
  (56, ⟨true, 40, [.bool, .int .i64, .int .i64, .int .i64, .int .i64], [C.bool false, C.int 0, C.int 0, C.int 0, C.int 0], .struct [(0, 1, false), (1, 1, false), (2, 1, false), (3, 1, false), (4, 1, false)], true⟩)]
theorem tys_2_eq : tys_2.map (fun x => tiOf Go.Proofs.Try.prog x.1 x.2.cks) = tys_2.map fun x => some x.2 := by kernel_rfl
def widen (b : Int) (c : Call) : Call := ⟨c.push, c.v, c.ret, if c.frm - b > 0 then c.frm - b else 0, if c.to + b < 1000000 then c.to + b else 1000000⟩
def widens (l : List Call) (b : Int) : List Call := bif fine l && inB b 0 1000000 then l.map (widen b) else []
theorem callOk_bounds {c : Call} (h : callOk c = true) : 0 ≤ c.frm ∧ c.frm ≤ c.to ∧ c.to ≤ 1000000 := by
  simp only [callOk, Bool.and_eq_true, decide_eq_true_eq] at h
  omega
theorem fine_spec {l : List Call} (h : fine l = true) : l.length ≤ 7 ∧ ∀ c ∈ l, callOk c = true := by
  simpa [fine] using h
def widenOut (l : List Call) (b : Int) : Res := (S.tup [S.one (C.sl true (some (!(fine l && inB b 0 1000000))) 5 ((widens l b).map encCall)), S.one (C.bool (fine l && inB b 0 1000000))], [S.one C.unk, S.one C.unk])
/-! function 17: loop.example/g00712/impl.Widen -/
noncomputable def c17 : Code := (Go.Proofs.Try.f17.body).getD .skip
noncomputable def E17 : Env := mkEnv tys_2 [(46, S46), (49, S49)] []
def dr17 : Nat → OT := fun _ => .stop
noncomputable def b17_5 : Code := (findLoop 5 c17).getD .skip
noncomputable def L17_5 (m : Nat) (k0 : (Option Bool) → (List (List C)) → Option Res) (nx : Int → (Option Bool) → (List (List C)) → Int → Int → (Option Bool) → (List (List C)) → Option Res) (v1 : Int) (v2 : Option Bool) (v3 : List (List C)) (v4 : Int) (v5 : Int) (v6 : Option Bool) (v7 : List (List C)) : Option Res := bif decide (v5 < v4) then if 0 ≤ v5 ∧ v5 < (v3.length : Int) then (v3[Int.toNat v5]?).bind fun w1 => (List.head? w1).bind fun c3 => (C.asBool c3).bind fun b3 => (List.head? (List.tail w1)).bind fun c4 => (C.asInt .i64 c4).bind fun n1 => (List.head? (List.tail (List.tail w1))).bind fun c5 => (C.asInt .i64 c5).bind fun n2 => (List.head? (List.tail (List.tail (List.tail w1)))).bind fun c6 => (C.asInt .i64 c6).bind fun n3 => (List.head? (List.tail (List.tail (List.tail (List.tail w1))))).bind fun c7 => (C.asInt .i64 c7).bind fun n4 => if (v7.length + 1) * 40 ≤ LIM then nx v1 v2 v3 v4 (W (v5 + 1)) (apNl v6 [[]]) (v7 ++ ([[C.bool b3, C.int n1, C.int n2, C.int (if W (n3 - v1) > 0 then W (n3 - v1) else (0 : Int)), C.int (if W (n4 + v1) < 1000000 then W (n4 + v1) else (1000000 : Int))]])) else none else none else k0 v6 v7
noncomputable def R17_5 (m : Nat) (k0 : (Option Bool) → (List (List C)) → Option Res) (nx : (Int × (Option Bool) × (List (List C)) × Int × Int × (Option Bool) × (List (List C))) → Option Res) (v : Int × (Option Bool) × (List (List C)) × Int × Int × (Option Bool) × (List (List C))) : Option Res := L17_5 m k0 (fun v1 v2 v3 v4 v5 v6 v7 => nx (v1, v2, v3, v4, v5, v6, v7)) v.1 v.2.1 v.2.2.1 v.2.2.2.1 v.2.2.2.2.1 v.2.2.2.2.2.1 v.2.2.2.2.2.2
noncomputable def T17_5 (m : Nat) (k0 : (Option Bool) → (List (List C)) → Option Res) (j : Nat) (v1 : Int) (v2 : Option Bool) (v3 : List (List C)) (v4 : Int) (v5 : Int) (v6 : Option Bool) (v7 : List (List C)) : Option Res := iterL (R17_5 m k0) j (v1, v2, v3, v4, v5, v6, v7)
def X17_5_0 (y1 : Option Bool) (y2 : List (List C)) : St := headOf 42 [6] ([S.one (C.al ⟨2, 0, []⟩)], [⟨true, [C.unk]⟩, ⟨true, [C.unk]⟩, ⟨true, [C.sl true y1 5 y2]⟩])
noncomputable def D17_5 (m : Nat) (k : Kx) (ss : List S) (bs : List Box) : Option Res :=
  match ss, bs with
  | [S.one (C.v (.int .i64 v1)), S.one (C.al ⟨2, 0, []⟩), S.one (C.sl false v2 5 v3), S.one (C.v (.int .i64 v4)), S.one (C.v (.int .i64 v5))], [⟨true, [C.unk]⟩, ⟨true, [C.unk]⟩, ⟨true, [C.sl true v6 5 v7]⟩] => T17_5 m (fun y1 y2 => k (.exit 0) (X17_5_0 y1 y2)) m v1 v2 v3 v4 v5 v6 v7
  | _, _ => none
def H17_5 (v : Int × (Option Bool) × (List (List C)) × Int × Int × (Option Bool) × (List (List C))) : List S × List Box := (fun (v1 : Int) (v2 : Option Bool) (v3 : List (List C)) (v4 : Int) (v5 : Int) (v6 : Option Bool) (v7 : List (List C)) => ([S.one (C.int v1), S.one (C.al ⟨2, 0, []⟩), S.one (C.sl false v2 5 v3), S.one (C.int v4), S.one (C.int v5)], [⟨true, [C.unk]⟩, ⟨true, [C.unk]⟩, ⟨true, [C.sl true v6 5 v7]⟩])) v.1 v.2.1 v.2.2.1 v.2.2.2.1 v.2.2.2.2.1 v.2.2.2.2.2.1 v.2.2.2.2.2.2
noncomputable def lp17 (m : Nat) : Nat → St → Kx → Option Res := fun id σ k => bif Nat.beq id 5 then hand [1, 6, 18, 19, 20] 2 42 (D17_5 m k) σ else none
noncomputable def m17 (m : Nat) (x1 : Option Bool) (x2 : List (List C)) (x3 : Int) : Option Res := (F46 [S.one (C.sl false x1 5 x2)]).bind fun r1 => (S.cells? false r1.1).bind fun cs1 => if cs1.length = 1 then (List.head? cs1).bind fun c1 => (C.asBool c1).bind fun b1 => bif !b1 then some (S.tup [S.one (C.sl true (some true) 5 []), S.one (C.bool false)], [S.one (C.unk), S.one (C.unk)]) else (F49 [S.one (C.int x3), S.one (C.int 0), S.one (C.int 1000000)]).bind fun r2 => (S.cells? false r2.1).bind fun cs2 => if cs2.length = 1 then (List.head? cs2).bind fun c2 => (C.asBool c2).bind fun b2 => bif !b2 then some (S.tup [S.one (C.sl true (some true) 5 []), S.one (C.bool false)], [S.one (C.unk), S.one (C.unk)]) else T17_5 m (fun y1 y2 => if (([S.one (C.sl true y1 5 y2), S.one (C.bool true)].all (S.leaves false) && [S.one (C.unk), S.one (C.unk)].all (S.leaves false)) && lensOk [S.one (C.sl false x1 5 x2), S.one (C.int x3)] [S.one (C.unk), S.one (C.unk)]) = true then some (S.tup [S.one (C.sl true y1 5 y2), S.one (C.bool true)], [S.one (C.unk), S.one (C.unk)]) else none) m x3 x1 x2 (x2.length : Int) 0 (some false) [] else none else none
theorem m17_eq (m : Nat) (x1 : Option Bool) (x2 : List (List C)) (x3 : Int) : funcL E17 dr17 (lp17 m) false [.ro, .ro] c17 Go.Proofs.Try.f17.ntmps Go.Proofs.Try.f17.results.toList [S.one (C.sl false x1 5 x2), S.one (C.int x3)] = m17 m x1 x2 x3 := by
  unfold m17
  kernel_rfl
theorem st17_5 (m : Nat) (k : Kx) (Kn : St → Option Res) (v : Int × (Option Bool) × (List (List C)) × Int × Int × (Option Bool) × (List (List C))) : codeL E17 dr17 (lp17 m) b17_5 (headOf 42 [1, 6, 18, 19, 20] (H17_5 v)) (fun e σ' => match e with | .normal => forgetK [1, 6, 18, 19, 20] 2 σ' Kn | e => k e (σ'.only [6])) = R17_5 m (fun y1 y2 => k (.exit 0) (X17_5_0 y1 y2)) (fun v' => Kn (headOf 42 [1, 6, 18, 19, 20] (H17_5 v'))) v := by
  unfold R17_5 L17_5
  kernel_rfl
theorem es17 : EnvSpec Go.Proofs.Try.prog E17 := envSpec_of (specsOk_cons go46 (specsOk_cons go49 specsOk_nil))
theorem et17 : EnvTy Go.Proofs.Try.prog E17 := envTy_mk tys_2_eq
theorem lok17_5 (m : Nat) : LoopOk Go.Proofs.Try.prog b17_5 (lp17 m (firstRegion b17_5)) := loop_ok (dr := dr17) (lp := lp17 m) (kp := [1, 6, 18, 19, 20]) (lv := [6]) follows et17 es17 (by kernel_rfl) (loopsOk_of b17_5 (by
  rw [show loopsOf b17_5 = [] by kernel_rfl]
  intro b hb
  cases hb)) (by
  intro σ k r h
  have h' : hand [1, 6, 18, 19, 20] 2 42 (D17_5 m k) σ = some r := h
  refine hand_ok (V := Int × (Option Bool) × (List (List C)) × Int × Int × (Option Bool) × (List (List C))) (enc := H17_5) (fb := fun k => R17_5 m (fun y1 y2 => k (.exit 0) (X17_5_0 y1 y2))) ?_ (fun k Kn v => st17_5 m k Kn v) σ k r h'
  intro k ss bs r h
  unfold D17_5 at h
  split at h
  · exact ⟨(_, _, _, _, _, _, _), m, rfl, h⟩
  · cases h)
theorem lps17 (m : Nat) : LoopsOk Go.Proofs.Try.prog (lp17 m) c17 := loopsOk_of c17 (by
  rw [show loopsOf c17 = [b17_5] by kernel_rfl]
  intro b hb
  simp only [List.mem_cons, List.not_mem_nil, or_false] at hb
  rcases hb with rfl
  · exact lok17_5 m)
def in17 (nl : Option Bool) (l : List Call) (b : Int) : List S := [S.one (C.sl false nl 5 (l.map encCall)), S.one (C.int b)]
noncomputable def out17 (nl : Option Bool) (l : List Call) (b : Int) : Res := (S.tup [S.one (C.sl true (some (!(fine l && inB b 0 1000000))) 5 ((widens l b).map encCall)), S.one (C.bool (fine l && inB b 0 1000000))], [S.one C.unk, S.one C.unk])
def pre17 (nl : Option Bool) (l : List Call) (b : Int) : Prop := True
noncomputable def F17 : List S → Option Res := told (A := (Option Bool) × (List Call) × Int) (fun a => in17 a.1 a.2.1 a.2.2) (fun a => pre17 a.1 a.2.1 a.2.2) (fun a => out17 a.1 a.2.1 a.2.2)
theorem F17_at (nl : Option Bool) (l : List Call) (b : Int) : F17 [S.one (C.sl false nl 5 (l.map encCall)), S.one (C.int b)] = some (S.tup [S.one (C.sl true (some (!(fine l && inB b 0 1000000))) 5 ((widens l b).map encCall)), S.one (C.bool (fine l && inB b 0 1000000))], [S.one C.unk, S.one C.unk]) := told_at (A := (Option Bool) × (List Call) × Int) (enc := fun a => in17 a.1 a.2.1 a.2.2) (pre := fun a => pre17 a.1 a.2.1 a.2.2) (out := fun a => out17 a.1 a.2.1 a.2.2) (a := (nl, l, b)) (by
  intro a b h
  first | (simp [in17] at h; simp [out17, h]; done) | (simp [in17] at h; simp only [← Call.ext_iff] at h; simp [out17, h]; done)) trivial
theorem plain17 (nl : Option Bool) (l : List Call) (b : Int) (h : True) : ∃ m, m17 m nl (l.map encCall) b = some (S.tup [S.one (C.sl true (some (!(fine l && inB b 0 1000000))) 5 ((widens l b).map encCall)), S.one (C.bool (fine l && inB b 0 1000000))], [S.one C.unk, S.one C.unk]) := by
  refine ⟨8, ?_⟩
  cases hf : fine l with
  | false => simp [m17, F46_at, hf, widens]
  | true =>
    cases hb : inB b 0 1000000 with
    | false => simp [m17, F46_at, F49_at, hf, hb, widens]
    | true =>
      obtain ⟨hlen, hall⟩ := fine_spec hf
      have hb' : 0 ≤ b ∧ b ≤ 1000000 := by simpa [inB] using hb
      have key : ∀ (k0 : Option Bool → List (List C) → Option Res) (rest pre : List Call) (j : Nat), rest.length < j → pre.length + rest.length ≤ 7 → (∀ c ∈ rest, callOk c = true) → T17_5 8 k0 j b nl ((pre ++ rest).map encCall) ((pre.length : Int) + (rest.length : Int)) (pre.length : Int) (some false) ((pre.map (widen b)).map encCall) = k0 (some false) (((pre ++ rest).map (widen b)).map encCall) := by
        intro k0 rest
        induction rest with
        | nil =>
          intro pre j hj _ _
          obtain ⟨j, rfl⟩ : ∃ k, j = k + 1 := ⟨j - 1, by omega⟩
          simp [T17_5, iterL, R17_5, L17_5]
        | cons c rest ih =>
          intro pre j hj hl hr
          obtain ⟨j, rfl⟩ : ∃ k, j = k + 1 := ⟨j - 1, by omega⟩
          simp only [List.length_cons] at hj hl
          have ih' := ih (pre ++ [c]) j (by omega) (by simp; omega) (fun c hc => hr c (by simp [hc]))
          simp only [T17_5, iterL, R17_5, L17_5] at ih' ⊢
          simp only [List.append_assoc, List.singleton_append, List.length_append, List.length_cons, List.length_nil, Nat.zero_add, List.map_append, List.map_cons, List.map_nil] at ih'
          have hc := callOk_bounds (hr c (by simp))
          have h1 : W (c.frm - b) = c.frm - b := W_eq (by omega) (by omega)
          have h2 : W (c.to + b) = c.to + b := W_eq (by omega) (by omega)
          have hL : (pre.length + 1) * 40 ≤ LIM := by simp only [LIM]; omega
          simp [h1, h2, hL]
          rw [W_succ (i := pre.length) (by omega), show (pre.length : Int) + ((rest.length : Int) + 1) = ((pre.length + 1 : Nat) : Int) + (rest.length : Int) by omega]
          simpa [widen] using ih'
      have := key (fun y1 y2 => if (([S.one (C.sl true y1 5 y2), S.one (C.bool true)].all (S.leaves false) && [S.one (C.unk), S.one (C.unk)].all (S.leaves false)) && lensOk [S.one (C.sl false nl 5 (l.map encCall)), S.one (C.int b)] [S.one (C.unk), S.one (C.unk)]) = true then some (S.tup [S.one (C.sl true y1 5 y2), S.one (C.bool true)], [S.one (C.unk), S.one (C.unk)]) else none) l [] 8 (by omega) (by simpa using hlen) hall
      simp only [List.nil_append, List.map_nil, List.length_nil, Int.natCast_zero, Int.zero_add] at this
      have hfr : rowsFree (List.map (encCall ∘ widen b) l) = true := by rw [← List.map_map]; exact encCall_free _
      simp [m17, F46_at, F49_at, hf, hb, widens]
      simpa [S.leaves, C.leaves, C.nested, C.free, lensOk, hfr] using this
noncomputable def S17 : Spec := ⟨[.ro, .ro], false, F17⟩
theorem ok17 : SpecOk Go.Proofs.Try.prog 17 S17 := funcL_ok follows et17 es17 Go.Proofs.Try.func17 (c := c17) (by kernel_rfl) (dr := dr17) (by kernel_rfl) (by
  intro xs r hl h
  obtain ⟨a, ha, rfl, rfl⟩ := told_some h
  obtain ⟨m, hm⟩ := plain17 a.1 a.2.1 a.2.2 ha
  exact ⟨lp17 m, lps17 m, (m17_eq m _ _ _).trans hm⟩)
theorem go17 : CalleeOk Go.Proofs.Try.prog 17 S17 := ⟨ok17, _, Go.Proofs.Try.func17, by kernel_rfl, by kernel_rfl⟩
/-! function 16: loop.example/g00712/spec.Widen -/
noncomputable def c16 : Code := (Go.Proofs.Try.f16.body).getD .skip
noncomputable def E16 : Env := mkEnv tys_2 [(42, S42), (48, S48)] []
def dr16 : Nat → OT := fun _ => .stop
noncomputable def b16_5 : Code := (findLoop 5 c16).getD .skip
noncomputable def L16_5 (m : Nat) (k0 : (Option Bool) → (List (List C)) → Option Res) (nx : (Option Bool) → (List (List C)) → Int → Int → (Option Bool) → (List (List C)) → Option Res) (v1 : Option Bool) (v2 : List (List C)) (v3 : Int) (v4 : Int) (v5 : Option Bool) (v6 : List (List C)) : Option Res := bif decide (v4 < (v2.length : Int)) then if 0 ≤ v4 ∧ v4 < (v2.length : Int) then (v2[Int.toNat v4]?).bind fun w1 => (List.head? w1).bind fun c3 => (C.asBool c3).bind fun b3 => (List.head? (List.tail w1)).bind fun c4 => (C.asInt .i64 c4).bind fun n1 => (List.head? (List.tail (List.tail w1))).bind fun c5 => (C.asInt .i64 c5).bind fun n2 => (List.head? (List.tail (List.tail (List.tail w1)))).bind fun c6 => (C.asInt .i64 c6).bind fun n3 => (List.head? (List.tail (List.tail (List.tail (List.tail w1))))).bind fun c7 => (C.asInt .i64 c7).bind fun n4 => bif decide (W (n3 - v3) < 0) then bif decide (W (n4 + v3) > 1000000) then if (v6.length + 1) * 40 ≤ LIM then nx v1 v2 v3 (W (v4 + 1)) (apNl v5 [[]]) (v6 ++ ([[C.bool b3, C.int n1, C.int n2, C.int 0, C.int 1000000]])) else none else if (v6.length + 1) * 40 ≤ LIM then nx v1 v2 v3 (W (v4 + 1)) (apNl v5 [[]]) (v6 ++ ([[C.bool b3, C.int n1, C.int n2, C.int 0, C.int (W (n4 + v3))]])) else none else bif decide (W (n4 + v3) > 1000000) then if (v6.length + 1) * 40 ≤ LIM then nx v1 v2 v3 (W (v4 + 1)) (apNl v5 [[]]) (v6 ++ ([[C.bool b3, C.int n1, C.int n2, C.int (W (n3 - v3)), C.int 1000000]])) else none else if (v6.length + 1) * 40 ≤ LIM then nx v1 v2 v3 (W (v4 + 1)) (apNl v5 [[]]) (v6 ++ ([[C.bool b3, C.int n1, C.int n2, C.int (W (n3 - v3)), C.int (W (n4 + v3))]])) else none else none else k0 v5 v6
noncomputable def R16_5 (m : Nat) (k0 : (Option Bool) → (List (List C)) → Option Res) (nx : ((Option Bool) × (List (List C)) × Int × Int × (Option Bool) × (List (List C))) → Option Res) (v : (Option Bool) × (List (List C)) × Int × Int × (Option Bool) × (List (List C))) : Option Res := L16_5 m k0 (fun v1 v2 v3 v4 v5 v6 => nx (v1, v2, v3, v4, v5, v6)) v.1 v.2.1 v.2.2.1 v.2.2.2.1 v.2.2.2.2.1 v.2.2.2.2.2
noncomputable def T16_5 (m : Nat) (k0 : (Option Bool) → (List (List C)) → Option Res) (j : Nat) (v1 : Option Bool) (v2 : List (List C)) (v3 : Int) (v4 : Int) (v5 : Option Bool) (v6 : List (List C)) : Option Res := iterL (R16_5 m k0) j (v1, v2, v3, v4, v5, v6)
def X16_5_0 (y1 : Option Bool) (y2 : List (List C)) : St := headOf 51 [6] ([S.one (C.al ⟨2, 0, []⟩)], [⟨true, [C.unk]⟩, ⟨true, [C.unk]⟩, ⟨true, [C.sl true y1 5 y2]⟩])
noncomputable def D16_5 (m : Nat) (k : Kx) (ss : List S) (bs : List Box) : Option Res :=
  match ss, bs with
  | [S.one (C.sl false v1 5 v2), S.one (C.v (.int .i64 v3)), S.one (C.al ⟨2, 0, []⟩), S.one (C.v (.int .i64 v4))], [⟨true, [C.unk]⟩, ⟨true, [C.unk]⟩, ⟨true, [C.sl true v5 5 v6]⟩] => T16_5 m (fun y1 y2 => k (.exit 0) (X16_5_0 y1 y2)) m v1 v2 v3 v4 v5 v6
  | _, _ => none
def H16_5 (v : (Option Bool) × (List (List C)) × Int × Int × (Option Bool) × (List (List C))) : List S × List Box := (fun (v1 : Option Bool) (v2 : List (List C)) (v3 : Int) (v4 : Int) (v5 : Option Bool) (v6 : List (List C)) => ([S.one (C.sl false v1 5 v2), S.one (C.int v3), S.one (C.al ⟨2, 0, []⟩), S.one (C.int v4)], [⟨true, [C.unk]⟩, ⟨true, [C.unk]⟩, ⟨true, [C.sl true v5 5 v6]⟩])) v.1 v.2.1 v.2.2.1 v.2.2.2.1 v.2.2.2.2.1 v.2.2.2.2.2
noncomputable def lp16 (m : Nat) : Nat → St → Kx → Option Res := fun id σ k => bif Nat.beq id 5 then hand [0, 1, 6, 7] 2 51 (D16_5 m k) σ else none
noncomputable def m16 (m : Nat) (x1 : Option Bool) (x2 : List (List C)) (x3 : Int) : Option Res := (F42 [S.one (C.sl false x1 5 x2)]).bind fun r1 => (S.cells? false r1.1).bind fun cs1 => if cs1.length = 1 then (List.head? cs1).bind fun c1 => (C.asBool c1).bind fun b1 => bif !b1 then some (S.tup [S.one (C.sl true (some true) 5 []), S.one (C.bool false)], [S.one (C.unk), S.one (C.unk)]) else (F48 [S.one (C.int x3), S.one (C.int 0), S.one (C.int 1000000)]).bind fun r2 => (S.cells? false r2.1).bind fun cs2 => if cs2.length = 1 then (List.head? cs2).bind fun c2 => (C.asBool c2).bind fun b2 => bif !b2 then some (S.tup [S.one (C.sl true (some true) 5 []), S.one (C.bool false)], [S.one (C.unk), S.one (C.unk)]) else T16_5 m (fun y1 y2 => if (([S.one (C.sl true y1 5 y2), S.one (C.bool true)].all (S.leaves false) && [S.one (C.unk), S.one (C.unk)].all (S.leaves false)) && lensOk [S.one (C.sl false x1 5 x2), S.one (C.int x3)] [S.one (C.unk), S.one (C.unk)]) = true then some (S.tup [S.one (C.sl true y1 5 y2), S.one (C.bool true)], [S.one (C.unk), S.one (C.unk)]) else none) m x1 x2 x3 0 (some false) [] else none else none
theorem m16_eq (m : Nat) (x1 : Option Bool) (x2 : List (List C)) (x3 : Int) : funcL E16 dr16 (lp16 m) false [.ro, .ro] c16 Go.Proofs.Try.f16.ntmps Go.Proofs.Try.f16.results.toList [S.one (C.sl false x1 5 x2), S.one (C.int x3)] = m16 m x1 x2 x3 := by
  unfold m16
  kernel_rfl
theorem st16_5 (m : Nat) (k : Kx) (Kn : St → Option Res) (v : (Option Bool) × (List (List C)) × Int × Int × (Option Bool) × (List (List C))) : codeL E16 dr16 (lp16 m) b16_5 (headOf 51 [0, 1, 6, 7] (H16_5 v)) (fun e σ' => match e with | .normal => forgetK [0, 1, 6, 7] 2 σ' Kn | e => k e (σ'.only [6])) = R16_5 m (fun y1 y2 => k (.exit 0) (X16_5_0 y1 y2)) (fun v' => Kn (headOf 51 [0, 1, 6, 7] (H16_5 v'))) v := by
  unfold R16_5 L16_5
  kernel_rfl
theorem es16 : EnvSpec Go.Proofs.Try.prog E16 := envSpec_of (specsOk_cons go42 (specsOk_cons go48 specsOk_nil))
theorem et16 : EnvTy Go.Proofs.Try.prog E16 := envTy_mk tys_2_eq
theorem lok16_5 (m : Nat) : LoopOk Go.Proofs.Try.prog b16_5 (lp16 m (firstRegion b16_5)) := loop_ok (dr := dr16) (lp := lp16 m) (kp := [0, 1, 6, 7]) (lv := [6]) follows et16 es16 (by kernel_rfl) (loopsOk_of b16_5 (by
  rw [show loopsOf b16_5 = [] by kernel_rfl]
  intro b hb
  cases hb)) (by
  intro σ k r h
  have h' : hand [0, 1, 6, 7] 2 51 (D16_5 m k) σ = some r := h
  refine hand_ok (V := (Option Bool) × (List (List C)) × Int × Int × (Option Bool) × (List (List C))) (enc := H16_5) (fb := fun k => R16_5 m (fun y1 y2 => k (.exit 0) (X16_5_0 y1 y2))) ?_ (fun k Kn v => st16_5 m k Kn v) σ k r h'
  intro k ss bs r h
  unfold D16_5 at h
  split at h
  · exact ⟨(_, _, _, _, _, _), m, rfl, h⟩
  · cases h)
theorem lps16 (m : Nat) : LoopsOk Go.Proofs.Try.prog (lp16 m) c16 := loopsOk_of c16 (by
  rw [show loopsOf c16 = [b16_5] by kernel_rfl]
  intro b hb
  simp only [List.mem_cons, List.not_mem_nil, or_false] at hb
  rcases hb with rfl
  · exact lok16_5 m)
def in16 (nl : Option Bool) (l : List Call) (b : Int) : List S := [S.one (C.sl false nl 5 (l.map encCall)), S.one (C.int b)]
noncomputable def out16 (nl : Option Bool) (l : List Call) (b : Int) : Res := (S.tup [S.one (C.sl true (some (!(fine l && inB b 0 1000000))) 5 ((widens l b).map encCall)), S.one (C.bool (fine l && inB b 0 1000000))], [S.one C.unk, S.one C.unk])
def pre16 (nl : Option Bool) (l : List Call) (b : Int) : Prop := True
noncomputable def F16 : List S → Option Res := told (A := (Option Bool) × (List Call) × Int) (fun a => in16 a.1 a.2.1 a.2.2) (fun a => pre16 a.1 a.2.1 a.2.2) (fun a => out16 a.1 a.2.1 a.2.2)
theorem F16_at (nl : Option Bool) (l : List Call) (b : Int) : F16 [S.one (C.sl false nl 5 (l.map encCall)), S.one (C.int b)] = some (S.tup [S.one (C.sl true (some (!(fine l && inB b 0 1000000))) 5 ((widens l b).map encCall)), S.one (C.bool (fine l && inB b 0 1000000))], [S.one C.unk, S.one C.unk]) := told_at (A := (Option Bool) × (List Call) × Int) (enc := fun a => in16 a.1 a.2.1 a.2.2) (pre := fun a => pre16 a.1 a.2.1 a.2.2) (out := fun a => out16 a.1 a.2.1 a.2.2) (a := (nl, l, b)) (by
  intro a b h
  first | (simp [in16] at h; simp [out16, h]; done) | (simp [in16] at h; simp only [← Call.ext_iff] at h; simp [out16, h]; done)) trivial
theorem plain16 (nl : Option Bool) (l : List Call) (b : Int) (h : True) : ∃ m, m16 m nl (l.map encCall) b = some (S.tup [S.one (C.sl true (some (!(fine l && inB b 0 1000000))) 5 ((widens l b).map encCall)), S.one (C.bool (fine l && inB b 0 1000000))], [S.one C.unk, S.one C.unk]) := by
  refine ⟨8, ?_⟩
  cases hf : fine l with
  | false => simp [m16, F42_at, hf, widens]
  | true =>
    cases hb : inB b 0 1000000 with
    | false => simp [m16, F42_at, F48_at, hf, hb, widens]
    | true =>
      obtain ⟨hlen, hall⟩ := fine_spec hf
      have hb' : 0 ≤ b ∧ b ≤ 1000000 := by simpa [inB] using hb
      have key : ∀ (k0 : Option Bool → List (List C) → Option Res) (rest pre : List Call) (j : Nat), rest.length < j → pre.length + rest.length ≤ 7 → (∀ c ∈ rest, callOk c = true) → T16_5 8 k0 j nl ((pre ++ rest).map encCall) b (pre.length : Int) (some false) ((pre.map (widen b)).map encCall) = k0 (some false) (((pre ++ rest).map (widen b)).map encCall) := by
        intro k0 rest
        induction rest with
        | nil =>
          intro pre j hj _ _
          obtain ⟨j, rfl⟩ : ∃ k, j = k + 1 := ⟨j - 1, by omega⟩
          simp [T16_5, iterL, R16_5, L16_5]
        | cons c rest ih =>
          intro pre j hj hl hr
          obtain ⟨j, rfl⟩ : ∃ k, j = k + 1 := ⟨j - 1, by omega⟩
          simp only [List.length_cons] at hj hl
          have ih' := ih (pre ++ [c]) j (by omega) (by simp; omega) (fun c hc => hr c (by simp [hc]))
          simp only [T16_5, iterL, R16_5, L16_5] at ih' ⊢
          simp only [List.append_assoc, List.singleton_append, List.length_append, List.length_cons, List.length_nil, Nat.zero_add, List.map_append, List.map_cons, List.map_nil] at ih'
          have hc := callOk_bounds (hr c (by simp))
          have h1 : W (c.frm - b) = c.frm - b := W_eq (by omega) (by omega)
          have h2 : W (c.to + b) = c.to + b := W_eq (by omega) (by omega)
          have hL : (pre.length + 1) * 40 ≤ LIM := by simp only [LIM]; omega
          have hw : encCall (widen b c) = [C.bool c.push, C.int c.v, C.int c.ret, C.int (bif decide (c.frm - b < 0) then 0 else c.frm - b), C.int (bif decide (c.to + b > 1000000) then 1000000 else c.to + b)] := by
            have e1 : (if c.frm - b > 0 then c.frm - b else 0) = (bif decide (c.frm - b < 0) then 0 else c.frm - b) := by
              rw [Bool.cond_decide]; split <;> split <;> omega
            have e2 : (if c.to + b < 1000000 then c.to + b else 1000000) = (bif decide (c.to + b > 1000000) then 1000000 else c.to + b) := by
              rw [Bool.cond_decide]; split <;> split <;> omega
            simp only [widen, e1, e2]
          rw [hw] at ih'
          simp [h1, h2, hL]
          rw [W_succ (i := pre.length) (by omega)]
          rw [hw]
          cases h3 : decide (c.frm - b < 0) <;> cases h4 : decide (c.to + b > 1000000) <;> simp [h3, h4] at ih' ⊢ <;> exact ih'
      have := key (fun y1 y2 => if (([S.one (C.sl true y1 5 y2), S.one (C.bool true)].all (S.leaves false) && [S.one (C.unk), S.one (C.unk)].all (S.leaves false)) && lensOk [S.one (C.sl false nl 5 (l.map encCall)), S.one (C.int b)] [S.one (C.unk), S.one (C.unk)]) = true then some (S.tup [S.one (C.sl true y1 5 y2), S.one (C.bool true)], [S.one (C.unk), S.one (C.unk)]) else none) l [] 8 (by omega) (by simpa using hlen) hall
      simp only [List.nil_append, List.map_nil, List.length_nil, Int.natCast_zero, Int.zero_add] at this
      have hfr : rowsFree (List.map (encCall ∘ widen b) l) = true := by rw [← List.map_map]; exact encCall_free _
      simp [m16, F42_at, F48_at, hf, hb, widens]
      simpa [S.leaves, C.leaves, C.nested, C.free, lensOk, hfr] using this
noncomputable def S16 : Spec := ⟨[.ro, .ro], false, F16⟩
theorem ok16 : SpecOk Go.Proofs.Try.prog 16 S16 := funcL_ok follows et16 es16 Go.Proofs.Try.func16 (c := c16) (by kernel_rfl) (dr := dr16) (by kernel_rfl) (by
  intro xs r hl h
  obtain ⟨a, ha, rfl, rfl⟩ := told_some h
  obtain ⟨m, hm⟩ := plain16 a.1 a.2.1 a.2.2 ha
  exact ⟨lp16 m, lps16 m, (m16_eq m _ _ _).trans hm⟩)
theorem go16 : CalleeOk Go.Proofs.Try.prog 16 S16 := ⟨ok16, _, Go.Proofs.Try.func16, by kernel_rfl, by kernel_rfl⟩
end Go.Proofs.Gh.Gm
