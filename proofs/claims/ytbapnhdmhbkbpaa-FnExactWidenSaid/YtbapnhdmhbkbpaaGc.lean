/- The program's functions by the ghost evaluator: what each computes, and that it does. -/
import Derived.Test.YtbapnhdmhbkbpaaGh43
import Derived.Test.YtbapnhdmhbkbpaaProg
import Derived.KernelRfl
import Derived.Test.YtbapnhdmhbkbpaaGb
import Derived.Test.YtbapnhdmhbkbpaaGh44
set_option linter.unusedVariables false
set_option linter.unusedSimpArgs false
set_option maxRecDepth 100000
namespace Go.Proofs.Gh.Gm

def tys_3 : List (Nat × TI) := [(3, ⟨false, 8, [.int .i64], [C.int 0], .scalar, false⟩),
  (4, ⟨false, 1, [.bool], [C.bool false], .scalar, false⟩),
  (22, ⟨false, 24, [.sl 5], [C.sl true (some true) 5 []], .slice 60, false⟩),
  (25, ⟨false, 24, [.sl 5], [C.sl true (some true) 5 []], .slice 56, false⟩),
  (29, ⟨false, 0, [], [], .tuple [25, 4], false⟩)]
theorem tys_3_eq : tys_3.map (fun x => tiOf Go.Proofs.Try.prog x.1 x.2.cks) = tys_3.map fun x => some x.2 := by kernel_rfl
@[simp] theorem eqCalls_self (l : List Call) : eqCalls l l = true := eqCalls_iff.2 rfl
theorem widens_len (l : List Call) (b : Int) : (widens l b).length ≤ 7 := by
  unfold widens
  cases hf : fine l with
  | false => simp
  | true => cases inB b 0 1000000 <;> simp [(fine_spec hf).1]
/-! function 4: loop.example/g00712/laws.FnExactWiden -/
noncomputable def c4 : Code := (Go.Proofs.Try.f4.body).getD .skip
noncomputable def E4 : Env := mkEnv tys_3 [(11, S11), (13, S13), (15, S15), (16, S16), (17, S17), (18, S18), (19, S19)] [(18, [.sl 5])]
def dr4 : Nat → OT := fun _ => .stop
noncomputable def lp4 (_ : Nat) : Nat → St → Kx → Option Res := fun _ _ _ => none
noncomputable def m4 (m : Nat) (x1 : Option Bool) (x2 : List (List C)) (x3 : Int) : Option Res := (F11 [S.one (C.sl false x1 5 x2), S.one (C.int 1048576)]).bind fun r1 => (S.cells? false r1.1).bind fun cs1 => if cs1.length = 1 then (List.head? cs1).bind fun c1 => (C.asInt .i64 c1).bind fun n1 => bif decide (n1 < 0) then some (S.one (C.bool true), [S.one (C.unk), S.one (C.unk)]) else (F13 [S.one (C.sl false x1 5 x2)]).bind fun r2 => (S.cells? false r2.1).bind fun cs2 => if cs2.length = 1 then (List.head? cs2).bind fun c2 => (C.asOwn 5 c2).bind fun q1 => (F16 [S.one (C.sl false q1.1 5 (freezeRows q1.2)), S.one (C.int x3)]).bind fun r3 => (S.parts r3.1).bind fun ss1 => if ss1.length = 2 then (List.head? ss1).bind fun s1 => (S.cells? false s1).bind fun cs3 => if cs3.length = 1 then (List.head? cs3).bind fun c3 => (C.asOwn 5 c3).bind fun q2 => (List.head? (List.tail ss1)).bind fun s2 => (S.cells? false s2).bind fun cs4 => if cs4.length = 1 then (List.head? cs4).bind fun c4 => (C.asBool c4).bind fun b1 => (F13 [S.one (C.sl false x1 5 x2)]).bind fun r4 => (S.cells? false r4.1).bind fun cs5 => if cs5.length = 1 then (List.head? cs5).bind fun c5 => (C.asOwn 5 c5).bind fun q3 => (F17 [S.one (C.sl false q3.1 5 (freezeRows q3.2)), S.one (C.int x3)]).bind fun r5 => (S.parts r5.1).bind fun ss2 => if ss2.length = 2 then (List.head? ss2).bind fun s3 => (S.cells? false s3).bind fun cs6 => if cs6.length = 1 then (List.head? cs6).bind fun c6 => (C.asOwn 5 c6).bind fun q4 => (List.head? (List.tail ss2)).bind fun s4 => (S.cells? false s4).bind fun cs7 => if cs7.length = 1 then (List.head? cs7).bind fun c7 => (C.asBool c7).bind fun b2 => (F15 [S.one (C.sl false q4.1 5 (freezeRows q4.2)), S.one (C.sl false q2.1 5 (freezeRows q2.2))]).bind fun r6 => (S.cells? false r6.1).bind fun cs8 => if cs8.length = 1 then (List.head? cs8).bind fun c8 => (C.asBool c8).bind fun b3 => bif !b3 then some (S.one (C.bool false), [S.one (C.unk), S.one (C.unk)]) else bif !(b2 == b1) then some (S.one (C.bool false), [S.one (C.unk), S.one (C.unk)]) else (F13 [S.one (C.sl false x1 5 x2)]).bind fun r7 => (S.cells? false r7.1).bind fun cs9 => if cs9.length = 1 then (List.head? cs9).bind fun c9 => (C.asOwn 5 c9).bind fun q5 => (F15 [S.one (C.sl false q3.1 5 (freezeRows q3.2)), S.one (C.sl false q5.1 5 (freezeRows q5.2))]).bind fun r8 => (S.cells? false r8.1).bind fun cs10 => if cs10.length = 1 then (List.head? cs10).bind fun c10 => (C.asBool c10).bind fun b4 => bif !b4 then some (S.one (C.bool false), [S.one (C.unk), S.one (C.unk)]) else (F18 [S.one (C.sl true q3.1 5 q3.2), S.one (C.int 1)]).bind fun r9 => (List.head? r9.2).bind fun o1 => (S.one? o1).bind fun c11 => (C.asOwn 5 c11).bind fun q6 => (S.cells? false r9.1).bind fun cs11 => if cs11.length = 1 then (List.head? cs11).bind fun c12 => (C.asInt .i64 c12).bind fun n2 => bif decide (n2 < 0) then some (S.one (C.bool false), [S.one (C.unk), S.one (C.unk)]) else (F15 [S.one (C.sl false q4.1 5 (freezeRows q4.2)), S.one (C.sl false q2.1 5 (freezeRows q2.2))]).bind fun r10 => (S.cells? false r10.1).bind fun cs12 => if cs12.length = 1 then (List.head? cs12).bind fun c13 => (C.asBool c13).bind fun b5 => bif !b5 then some (S.one (C.bool false), [S.one (C.unk), S.one (C.unk)]) else bif !(b2 == b1) then some (S.one (C.bool false), [S.one (C.unk), S.one (C.unk)]) else (F18 [S.one (C.sl true q4.1 5 q4.2), S.one (C.int 1)]).bind fun r11 => (List.head? r11.2).bind fun o2 => (S.one? o2).bind fun c14 => (C.asOwn 5 c14).bind fun q7 => (S.cells? false r11.1).bind fun cs13 => if cs13.length = 1 then (List.head? cs13).bind fun c15 => (C.asInt .i64 c15).bind fun n3 => (F19 [S.one (C.sl false q7.1 5 (freezeRows q7.2)), S.one (C.int 1)]).bind fun r12 => (S.cells? false r12.1).bind fun cs14 => if cs14.length = 1 then (List.head? cs14).bind fun c16 => (C.asInt .i64 c16).bind fun n4 => bif decide (n4 < 0) then some (S.one (C.bool false), [S.one (C.unk), S.one (C.unk)]) else bif n4 != n3 then some (S.one (C.bool false), [S.one (C.unk), S.one (C.unk)]) else (F13 [S.one (C.sl false x1 5 x2)]).bind fun r13 => (S.cells? false r13.1).bind fun cs15 => if cs15.length = 1 then (List.head? cs15).bind fun c17 => (C.asOwn 5 c17).bind fun q8 => (F17 [S.one (C.sl false q8.1 5 (freezeRows q8.2)), S.one (C.int x3)]).bind fun r14 => (S.parts r14.1).bind fun ss3 => if ss3.length = 2 then (List.head? ss3).bind fun s5 => (S.cells? false s5).bind fun cs16 => if cs16.length = 1 then (List.head? cs16).bind fun c18 => (C.asOwn 5 c18).bind fun q9 => (List.head? (List.tail ss3)).bind fun s6 => (S.cells? false s6).bind fun cs17 => if cs17.length = 1 then (List.head? cs17).bind fun c19 => (C.asBool c19).bind fun b6 => (F15 [S.one (C.sl false q9.1 5 (freezeRows q9.2)), S.one (C.sl false q2.1 5 (freezeRows q2.2))]).bind fun r15 => (S.cells? false r15.1).bind fun cs18 => if cs18.length = 1 then (List.head? cs18).bind fun c20 => (C.asBool c20).bind fun b7 => bif !b7 then some (S.one (C.bool false), [S.one (C.unk), S.one (C.unk)]) else bif !(b6 == b1) then some (S.one (C.bool false), [S.one (C.unk), S.one (C.unk)]) else (F19 [S.one (C.sl false q7.1 5 (freezeRows q7.2)), S.one (C.int 1)]).bind fun r16 => (S.cells? false r16.1).bind fun cs19 => if cs19.length = 1 then (List.head? cs19).bind fun c21 => (C.asInt .i64 c21).bind fun n5 => bif decide (n5 < 0) then some (S.one (C.bool false), [S.one (C.unk), S.one (C.unk)]) else bif n5 != n3 then some (S.one (C.bool false), [S.one (C.unk), S.one (C.unk)]) else some (S.one (C.bool true), [S.one (C.unk), S.one (C.unk)]) else none else none else none else none else none else none else none else none else none else none else none else none else none else none else none else none else none else none else none else none else none else none
theorem m4_eq (m : Nat) (x1 : Option Bool) (x2 : List (List C)) (x3 : Int) : funcL E4 dr4 (lp4 m) false [.ro, .ro] c4 Go.Proofs.Try.f4.ntmps Go.Proofs.Try.f4.results.toList [S.one (C.sl false x1 5 x2), S.one (C.int x3)] = m4 m x1 x2 x3 := by
  unfold m4
  kernel_rfl
theorem es4 : EnvSpec Go.Proofs.Try.prog E4 := envSpec_of (specsOk_cons go11 (specsOk_cons go13 (specsOk_cons go15 (specsOk_cons go16 (specsOk_cons go17 (specsOk_cons go18 (specsOk_cons go19 specsOk_nil)))))))
theorem et4 : EnvTy Go.Proofs.Try.prog E4 := envTy_mk tys_3_eq
theorem lps4 (m : Nat) : LoopsOk Go.Proofs.Try.prog (lp4 m) c4 := loopsOk_of c4 (by rw [show loopsOf c4 = [] by kernel_rfl]; intro b hb; cases hb)
def in4 (nl : Option Bool) (l : List Call) (b : Int) : List S := [S.one (C.sl false nl 5 (l.map encCall)), S.one (C.int b)]
noncomputable def out4 (nl : Option Bool) (l : List Call) (b : Int) : Res := (S.one (C.bool true), [S.one C.unk, S.one C.unk])
def pre4 (nl : Option Bool) (l : List Call) (b : Int) : Prop := l.length ≤ 9223372036854775807
noncomputable def F4 : List S → Option Res := told (A := (Option Bool) × (List Call) × Int) (fun a => in4 a.1 a.2.1 a.2.2) (fun a => pre4 a.1 a.2.1 a.2.2) (fun a => out4 a.1 a.2.1 a.2.2)
theorem F4_at (nl : Option Bool) (l : List Call) (b : Int) (h : l.length ≤ 9223372036854775807) : F4 [S.one (C.sl false nl 5 (l.map encCall)), S.one (C.int b)] = some (S.one (C.bool true), [S.one C.unk, S.one C.unk]) := told_at (A := (Option Bool) × (List Call) × Int) (enc := fun a => in4 a.1 a.2.1 a.2.2) (pre := fun a => pre4 a.1 a.2.1 a.2.2) (out := fun a => out4 a.1 a.2.1 a.2.2) (a := (nl, l, b)) (by
  intro a b h
  first | (simp [in4] at h; simp [out4, h]; done) | (simp [in4] at h; simp only [← Call.ext_iff] at h; simp [out4, h]; done)) h
theorem plain4 (nl : Option Bool) (l : List Call) (b : Int) (h : l.length ≤ 9223372036854775807) : ∃ m, m4 m nl (l.map encCall) b = some (S.one (C.bool true), [S.one C.unk, S.one C.unk]) := by
  refine ⟨0, ?_⟩
  have h11 := F11_at nl l 1048576 ⟨by omega, by omega, by omega⟩
  by_cases hl : l.length ≤ 1048576
  · have hw : (widens l b).length ≤ 1048576 := Nat.le_trans (widens_len l b) (by omega)
    have hn : ¬ ((1048576 : Int) - (l.length : Int) < 0) := by omega
    rw [if_neg hn] at h11
    have h13 := fun nl => F13_at nl l hl
    have h15 := fun nl nl' => F15_at nl (widens l b) nl' (widens l b) hw
    have h15' := fun nl nl' => F15_at nl l nl' l hl
    have h18 := fun nl => F18_at nl l 1 ⟨hl, by omega, by omega⟩
    have h18' := fun nl => F18_at nl (widens l b) 1 ⟨hw, by omega, by omega⟩
    have h19 := fun nl => F19_at nl (markCalls (widens l b) 1) 1 ⟨by rw [markCalls_length]; exact hw, by omega, by omega⟩
    simp only [heldCalls_mark] at h19
    have k1 : ¬ (1 + 5 * (l.length : Int) < 0) := by omega
    have k2 : ¬ (1 + 5 * ((widens l b).length : Int) < 0) := by omega
    simp [m4, h11, hn, h13, h15, h15', h18, h18', h19, F16_at, F17_at, k1, k2]
  · have hn : ((1048576 : Int) - (l.length : Int) < 0) := by omega
    rw [if_pos hn] at h11
    simp [m4, h11]
noncomputable def S4 : Spec := ⟨[.ro, .ro], false, F4⟩
theorem ok4 : SpecOk Go.Proofs.Try.prog 4 S4 := funcL_ok follows et4 es4 Go.Proofs.Try.func4 (c := c4) (by kernel_rfl) (dr := dr4) (by kernel_rfl) (by
  intro xs r hl h
  obtain ⟨a, ha, rfl, rfl⟩ := told_some h
  obtain ⟨m, hm⟩ := plain4 a.1 a.2.1 a.2.2 ha
  exact ⟨lp4 m, lps4 m, (m4_eq m _ _ _).trans hm⟩)
theorem go4 : CalleeOk Go.Proofs.Try.prog 4 S4 := ⟨ok4, _, Go.Proofs.Try.func4, by kernel_rfl, by kernel_rfl⟩
theorem typed22 {ds : List C} (h : Typed Go.Proofs.Try.prog 9 22 ds) : ∃ (nl : Option Bool) (l : List Call), ds = [C.sl false nl 5 (l.map encCall)] ∧ l.length ≤ 9223372036854775807 := by
  simp only [Typed, Go.Proofs.Try.underlying22] at h
  obtain ⟨nl, es, rfl, hlen, hr⟩ := h
  obtain ⟨l, rfl, _⟩ := rows_map (f := encCall) (G := fun _ => True) (es := es) (fun row hrow => by
    have := hr row hrow
    simp only [Go.Proofs.Try.underlying60, Go.Proofs.Try.underlying3, Go.Proofs.Try.underlying4, all2_cons, all2_nil] at this
    obtain ⟨parts, rfl, _, _, rfl, ⟨b, rfl⟩, _, _, rfl, ⟨v, rfl, _⟩, _, _, rfl, ⟨r, rfl, _⟩, _, _, rfl, ⟨f, rfl, _⟩, _, _, rfl, ⟨t, rfl, _⟩, rfl⟩ := this
    exact ⟨⟨b, v, r, f, t⟩, rfl, trivial⟩)
  refine ⟨nl, l, ?_, by simpa [maxLen] using hlen⟩
  rw [show Go.Proofs.Try.prog.cellsOf 60 = 5 by kernel_rfl]
end Go.Proofs.Gh.Gm
