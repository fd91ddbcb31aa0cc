/- The program's functions by the ghost evaluator: what each computes, and that it does. -/
import Derived.Test.YtmpnmcnjhpekaaaGh47
import Derived.Test.YtmpnmcnjhpekaaaGh48
import Derived.Test.YtmpnmcnjhpekaaaGh45
import Derived.Test.YtmpnmcnjhpekaaaProg
import Derived.KernelRfl
import Derived.Test.YtmpnmcnjhpekaaaQc
import Derived.Test.YtmpnmcnjhpekaaaGh44
set_option linter.unusedVariables false
set_option linter.unusedSimpArgs false
set_option maxRecDepth 100000
set_option maxHeartbeats 2000000
namespace Go.Proofs.Gh.Gm
def tys_d3 : List (Nat × TI) := [(3, ⟨false, 8, [.int .i64], [.int 0], .scalar, false, none⟩),
  (4, ⟨false, 1, [.bool], [.bool false], .scalar, false, none⟩),
  (23, ⟨false, 24, [.sl 1], [.sl true (some true) 1 []], .slice 3, false, none⟩),
  (38, ⟨false, 24, [.sl 1], [.sl true (some true) 1 []], .slice 5, false, none⟩),
  (64, ⟨false, 24, [.sl 1], [.sl true (some true) 1 []], .slice 69, false, none⟩),
  (66, ⟨true, 32, [.int .i64, .sl 1], [.int 0, .sl true (some true) 1 []], .struct [(0, 1, false), (1, 1, false)], false, none⟩),
  (69, ⟨false, 24, [.sl 4], [.sl true (some true) 4 []], .slice 135, false, none⟩),
  (71, ⟨true, 24, [.sl 1], [.sl true (some true) 1 []], .struct [(0, 1, false)], false, none⟩),
  (72, ⟨false, 24, [.sl 3], [.sl true (some true) 3 []], .slice 84, false, none⟩),
  (74, ⟨true, 48, [.sl 1, .sl 3], [.sl true (some true) 1 [], .sl true (some true) 3 []], .struct [(0, 1, true), (1, 1, false)], false, none⟩),
  (75, ⟨false, 0, [], [], .tuple [74, 4], false, none⟩),
  (78, ⟨true, 16, [.int .i64, .bool], [.int 0, .bool false], .struct [(0, 1, false), (1, 1, false)], true, none⟩),
  (82, ⟨false, 24, [.sl 2], [.sl true (some true) 2 []], .slice 144, false, none⟩),
  (84, ⟨true, 56, [.int .i64, .sl 1, .sl 2], [.int 0, .sl true (some true) 1 [], .sl true (some true) 2 []], .struct [(0, 1, false), (1, 1, false), (2, 1, false)], false, none⟩),
  (89, ⟨false, 0, [], [], .tuple [66, 74], false, none⟩),
  (92, ⟨false, 24, [.sl 2], [.sl true (some true) 2 []], .slice 78, false, none⟩),
  (112, ⟨false, 8, [.other], [.v (Value.pointer none)], .scalar, false, none⟩),
  (144, ⟨true, 16, [.int .i64, .int .i64], [.int 0, .int 0], .struct [(0, 1, false), (1, 1, false)], true, none⟩),
  (181, ⟨false, 0, [], [], .tuple [112, 66, 74], false, none⟩)]
theorem tys_d3_eq : tys_d3.map (fun x => tiOf Go.Proofs.Try.prog x.1 x.2.cks) = tys_d3.map fun x => some x.2 := by kernel_rfl
/-! sl03DrawBuf: loop.example/g00712/spec.l03DrawBuf -/
@[reducible] def hsl03DrawBuf_6 : Sh := ⟨[.one (.o (.pl 0 0 [])), .one (.o (.i .i64)), .one (.o (.al 3 0 [])), .one (.o (.i .i64)), .one (.o (.i .i64))], [(false, [.o (.sl false 1), .o (.i .i64), .o (.i .i64)]), (true, [.o .u]), (true, [.o .u]), (true, [.o (.sl true 2)])]⟩
@[reducible] def xsl03DrawBuf_6 : List (Ex × Sh) := [(.exit 0, ⟨[.one (.o (.pl 0 0 [])), .one (.o (.al 3 0 [])), .one (.o (.i .i64))], [(false, [.o (.sl false 1), .o (.i .i64), .o (.i .i64)]), (true, [.o .u]), (true, [.o .u]), (true, [.o (.sl true 2)])]⟩)]
noncomputable def Rsl03DrawBuf_6 : KC xsl03DrawBuf_6 (hsl03DrawBuf_6.K → hsl03DrawBuf_6.K) := fun k0 nx v1 v2 v3 v4 v5 v6 v7 v8 v9 => bif decide (v3 < v2) then cOV [.cub 1] false [.int .i64] (Fsl01Below [.one (.bx [.sl false v4 1 v5, .int v6, .int v7]), .one (.int v1)]) fun o2 l2 n4 n5 n6 => cOV [.cub 1] false [.int .i64] (Fsl01DrawValue [.one (.bx [.sl false o2 1 l2, .int n4, .int n5])]) fun o3 l3 n7 n8 n9 => if (v9.length + 1) * 16 ≤ LIM then nx v1 v2 (W (v3 + 1)) o3 l3 n7 n8 (apNl v8 [[]]) (v9 ++ [[.int n6, .int n9]]) else none else k0 v2 v4 v5 v6 v7 v8 v9
noncomputable def Lsl03DrawBuf_6 : Lp := ⟨6, [0, 1, 5, 6, 7], [0, 5, 6], 3, 54, hsl03DrawBuf_6, xsl03DrawBuf_6, Rsl03DrawBuf_6⟩
noncomputable def Qsl03DrawBuf : Fx := ⟨Go.Proofs.Try.f204, [.io, .ro], true, mkEnv tys_d3 [(100, Ssl01Once), (128, Ssl01Below), (149, Ssl01PickInt), (190, Ssl01DrawValue)] [(100, [.cub 1]), (128, [.cub 1]), (149, [.cub 1]), (190, [.cub 1])], fun _ => .stop, [Lsl03DrawBuf_6]⟩
noncomputable def Fsl03DrawBuf : List S → Option Res := veil Qsl03DrawBuf.run
noncomputable def Ssl03DrawBuf : Spec := ⟨[.io, .ro], true, Fsl03DrawBuf⟩
theorem msl03DrawBuf (x1 : Option Bool) (x2 : List (List C)) (x3 : Int) (x4 : Int) (x5 : Int) : Fsl03DrawBuf [.one (.bx [.sl false x1 1 x2, .int x3, .int x4]), .one (.int x5)] = cOV [.cub 1] false [.int .i64] (Fsl01Below [.one (.bx [.sl false x1 1 x2, .int x3, .int x4]), .one (.int 4)]) fun o1 l1 n1 n2 n3 => (let q1 : Int → Bool → (Option Bool) → (List (List C)) → Int → Int → Option Res := fun z1 z2 z3 z4 z5 z6 => iterC (Rsl03DrawBuf_6 (fun y1 y2 y3 y4 y5 y6 y7 => (let q2 : (List (List C)) → (Option Bool) → (List (List C)) → Int → Int → Option Res := fun z7 z8 z9 z10 z11 => fin true [.one (.bx [.sl false x1 1 x2, .int x3, .int x4]), .one (.int x5)] [.one (.sl true y6 2 z7)] [.one (.bx [.sl false z8 1 z9, .int z10, .int z11]), .one .unk]; cOV [.cub 1] false [.bool] (Fsl01Once [.one (.bx [.sl false y2 1 y3, .int y4, .int y5]), .one (.int 20)]) fun o2 l2 n4 n5 b1 => bif b1 then bif decide (y1 > 0) then cOV [.cub 1] false [.int .i64] (Fsl01Below [.one (.bx [.sl false o2 1 l2, .int n4, .int n5]), .one (.int y1)]) fun o3 l3 n6 n7 n8 => cOV [.cub 1] false [.bool] (Fsl01Once [.one (.bx [.sl false o3 1 l3, .int n6, .int n7]), .one (.int 2)]) fun o4 l4 n9 n10 b2 => bif b2 then cOV [.cub 1] false [.int .i64] (Fsl01PickInt [.one (.bx [.sl false o4 1 l4, .int n9, .int n10]), .one (.sl true (some false) 1 [[.int (-1)], [.int 15], [.int 16]])]) fun o5 l5 n11 n12 n13 => ix n8 y7 (oc (.int .i64) y7 (Int.toNat n8) 0 ((let e1 : List (List C) := md y7 (Int.toNat n8) 0 (.int n13); q2 e1 o5 l5 n11 n12))) else cOV [.cub 1] false [.int .i64] (Fsl01PickInt [.one (.bx [.sl false o4 1 l4, .int n9, .int n10]), .one (.sl true (some false) 1 [[.int 1000001], [.int (-1000001)]])]) fun o6 l6 n14 n15 n16 => ix n8 y7 (oc (.int .i64) y7 (Int.toNat n8) 1 ((let e2 : List (List C) := md y7 (Int.toNat n8) 1 (.int n16); q2 e2 o6 l6 n14 n15))) else q2 y7 o2 l2 n4 n5 else q2 y7 o2 l2 n4 n5))) FUEL x5 z1 0 z3 z4 z5 z6 (some false) []; cOV [.cub 1] false [.bool] (Fsl01Once [.one (.bx [.sl false o1 1 l1, .int n1, .int n2]), .one (.int 20)]) fun o7 l7 n17 n18 b3 => bif b3 then q1 4 b3 o7 l7 n17 n18 else q1 n3 b3 o7 l7 n17 n18) := Fx.eq (by kernel_rfl)
theorem stsl03DrawBuf_6 : Lsl03DrawBuf_6.Step Qsl03DrawBuf.E Qsl03DrawBuf.dr Qsl03DrawBuf.lp ((findLoop 6 Qsl03DrawBuf.code).getD .skip) := fun k nx v => by kernel_rfl
theorem oksl03DrawBuf : CalleeOk Go.Proofs.Try.prog 204 Ssl03DrawBuf := Fx.ok (F := Qsl03DrawBuf) follows (envTy_mk tys_d3_eq) (envSpec_of (specsOk_cons oksl01Once (specsOk_cons oksl01Below (specsOk_cons oksl01PickInt (specsOk_cons oksl01DrawValue specsOk_nil))))) Go.Proofs.Try.func204 (by kernel_rfl) (by kernel_rfl) (by
  rw [show subs Qsl03DrawBuf.code = [(findLoop 6 Qsl03DrawBuf.code).getD .skip] by kernel_rfl]
  exact ⟨stepAt_some (by kernel_rfl) stsl03DrawBuf_6, trivial⟩) (by kernel_rfl) (by kernel_rfl) rfl
theorem dBuf (c : Cu) (cells : Int) (hc : cuOk c) : ∃ (b : List Slot) (c' : Cu), Fsl03DrawBuf [.one (encCu c), .one (.int cells)] = some (.one (.sl true (some false) 2 (b.map encSlot)), [.one (encCu c'), .one .unk]) ∧ cuOk c' ∧ b.length ≤ 4 := by
  have key : Ok (Fsl03DrawBuf [.one (encCu c), .one (.int cells)]) (fun r => ∃ (b : List Slot) (c' : Cu), r = (.one (.sl true (some false) 2 (b.map encSlot)), [.one (encCu c'), .one .unk]) ∧ cuOk c' ∧ b.length ≤ 4) := by
    rw [msl03DrawBuf]
    refine ok_below hc fun x c1 hc1 hx hx' => ?_
    have hx' := hx' (by omega)
    extract_lets -underBinder q1
    have hq1 : ∀ (n : Nat) (b : Bool) (c : Cu), n ≤ 4 → cuOk c → Ok (q1 (n : Int) b c.o (c.bs.map encB) c.i c.h) (fun r => ∃ (b : List Slot) (c' : Cu), r = (.one (.sl true (some false) 2 (b.map encSlot)), [.one (encCu c'), .one .unk]) ∧ cuOk c' ∧ b.length ≤ 4) := by
      intro n bb c hn hc
      simp -zeta -zetaHave only [q1]
      refine iter_ok (h := hsl03DrawBuf_6) n (fun i (a : Cu × List Slot) f => f cells (n : Int) (i : Int) a.1.o (a.1.bs.map encB) a.1.i a.1.h (some false) (a.2.map encSlot)) (fun i a => cuOk a.1 ∧ a.2.length = i) _ (by omega) ?_ ?_ (c, []) ⟨hc, rfl⟩
      · intro nx a ⟨h1, h2⟩
        have hne : ¬ (n : Int) < (n : Int) := by omega
        simp -zeta -zetaHave only [Rsl03DrawBuf_6, hne, decide_false, cond_false]
        extract_lets -underBinder q2
        have hq2 : ∀ (b : List Slot) (c : Cu), b.length ≤ 4 → cuOk c → Ok (q2 (b.map encSlot) c.o (c.bs.map encB) c.i c.h) (fun r => ∃ (b : List Slot) (c' : Cu), r = (.one (.sl true (some false) 2 (b.map encSlot)), [.one (encCu c'), .one .unk]) ∧ cuOk c' ∧ b.length ≤ 4) := fun b c hb hc =>
          ok_eq (r := (.one (.sl true (some false) 2 (b.map encSlot)), [.one (encCu c), .one .unk])) (by simp [q2]) ⟨b, c, rfl, hc, hb⟩
        clear_value q2
        refine ok_once h1 fun b c2 hc2 => ?_
        cases b with
        | false => exact hq2 a.2 c2 (by omega) hc2
        | true =>
          by_cases hn0 : (n : Int) > 0
          · simp only [cond_true, hn0, decide_true]
            refine ok_below hc2 fun k c3 hc3 hk0 hk1 => ok_once hc3 fun b c4 hc4 => ?_
            have hk1 := hk1 (by omega)
            obtain ⟨k, rfl⟩ := Int.eq_ofNat_of_zero_le hk0
            have hk : k < a.2.length := by omega
            cases b with
            | true =>
              refine ok_pick (l := [-1, 15, 16]) hc4 rfl (by simp) fun v c5 hc5 _ => ?_
              exact ok_of (by simp [-List.map_set, hk]) (hq2 (a.2.set k ⟨v, a.2[k].v⟩) c5 (by simp; omega) hc5)
            | false =>
              refine ok_pick (l := [1000001, -1000001]) hc4 rfl (by simp) fun v c5 hc5 _ => ?_
              exact ok_of (by simp [-List.map_set, hk]) (hq2 (a.2.set k ⟨a.2[k].a, v⟩) c5 (by simp; omega) hc5)
          · have hn1 : ¬ 0 < n := by omega
            exact ok_of (by simp [hn1]) (hq2 a.2 c2 (by omega) hc2)
      · intro nx i a hi ⟨h1, h2⟩ hW hnx
        have hlt : (i : Int) < (n : Int) := by omega
        have hL : (a.2.length + 1) * 16 ≤ LIM := by unfold LIM; omega
        simp -zeta -zetaHave only [Rsl03DrawBuf_6, hlt, decide_true, cond_true]
        refine ok_below h1 fun x c2 hc2 _ _ => ok_value hc2 fun y c3 hc3 _ _ => ?_
        exact ok_of (by simp [hL, hW, apNl]) (hnx (c3, a.2 ++ [⟨x, y⟩]) ⟨hc3, by simp [h2]⟩)
    clear_value q1
    refine ok_once hc1 fun b c2 hc2 => ?_
    obtain ⟨k, rfl⟩ := Int.eq_ofNat_of_zero_le hx
    cases b with
    | true => exact hq1 4 true c2 (by omega) hc2
    | false => exact hq1 k false c2 (by omega) hc2
  obtain ⟨r, h1, x, c', rfl, h2⟩ := key
  exact ⟨x, c', h1, h2⟩
theorem ok_buf {c : Cu} {cells : Int} {k : Option Bool → List (List C) → Int → Int → Option Bool → List (List C) → Option Res} {Q : Res → Prop} (hc : cuOk c) (h : ∀ (b : List Slot) c', cuOk c' → b.length ≤ 4 → Ok (k c'.o (c'.bs.map encB) c'.i c'.h (some false) (b.map encSlot)) Q) :
    Ok (cOV [.cub 1] false [.sl 2] (Fsl03DrawBuf [.one (.bx [.sl false c.o 1 (c.bs.map encB), .int c.i, .int c.h]), .one (.int cells)]) k) Q := by
  obtain ⟨l, c', e, h1, h2⟩ := dBuf c cells hc
  exact ok_of (by simp [e]) (h l c' h1 h2)
def mvAt (p : Prog) (m : Machine) (t : Nat) : List Move := (bif canMv p m t false then [⟨t, false⟩] else []) ++ (bif canMv p m t true then [⟨t, true⟩] else [])
def movesTo (p : Prog) (m : Machine) (n : Nat) : List Move := (List.range n).foldl (fun a t => a ++ mvAt p m t) []
def movesM (p : Prog) (m : Machine) : List Move := movesTo p m m.ths.length
theorem movesTo_succ (p : Prog) (m : Machine) (n : Nat) : movesTo p m (n + 1) = movesTo p m n ++ mvAt p m n := by simp [movesTo, List.range_succ]
theorem mvAt_len (p : Prog) (m : Machine) (t : Nat) : (mvAt p m t).length ≤ 2 := by
  unfold mvAt
  cases canMv p m t false <;> cases canMv p m t true <;> simp
theorem movesTo_len (p : Prog) (m : Machine) (n : Nat) : (movesTo p m n).length ≤ 2 * n := by
  induction n with
  | zero => simp [movesTo]
  | succ n ih => rw [movesTo_succ, List.length_append]; have := mvAt_len p m n; omega
theorem mem_mvAt {p : Prog} {m : Machine} {t : Nat} {x : Move} (h : x ∈ mvAt p m t) : x.t = t ∧ canMv p m x.t x.drain = true := by
  unfold mvAt at h
  rcases List.mem_append.1 h with h | h
  · cases hc : canMv p m t false <;> simp [hc] at h
    subst h; exact ⟨rfl, hc⟩
  · cases hc : canMv p m t true <;> simp [hc] at h
    subst h; exact ⟨rfl, hc⟩
theorem mem_movesTo {p : Prog} {m : Machine} {n : Nat} {x : Move} (h : x ∈ movesTo p m n) : canMv p m x.t x.drain = true := by
  induction n with
  | zero => simp [movesTo] at h
  | succ n ih =>
    rw [movesTo_succ] at h
    rcases List.mem_append.1 h with h | h
    · exact ih h
    · exact (mem_mvAt h).2
/-! sl04Moves: loop.example/g00712/spec.l04Moves -/
@[reducible] def hsl04Moves_3 : Sh := ⟨[.one (.o (.pl 0 0 [])), .one (.o (.pl 1 0 [])), .one (.o (.al 4 0 [])), .one (.o (.i .i64))], [(false, [.o (.i .i64), .o (.sl false 1)]), (false, [.o (.sl false 1), .o (.sl false 3)]), (true, [.o .u]), (true, [.o .u]), (true, [.o (.sl true 2)])]⟩
@[reducible] def xsl04Moves_3 : List (Ex × Sh) := [(.exit 0, ⟨[.one (.o (.al 4 0 []))], [(false, [.o (.i .i64), .o (.sl false 1)]), (false, [.o (.sl false 1), .o (.sl false 3)]), (true, [.o .u]), (true, [.o .u]), (true, [.o (.sl true 2)])]⟩)]
noncomputable def Rsl04Moves_3 : KC xsl04Moves_3 (hsl04Moves_3.K → hsl04Moves_3.K) := fun k0 nx v1 v2 v3 v4 v5 v6 v7 v8 v9 v10 => bif decide (v1 < (v8.length : Int)) then (let q1 : (Option Bool) → (List (List C)) → Option Res := fun z1 z2 => cV false [.bool] (Fsl04Can [.agg [.int v2, .sl false none 1 v4], .agg [.sl false none 1 v6, .sl false none 3 v8], .agg [.int v1, .bool true]]) fun b1 => bif b1 then if (z2.length + 1) * 16 ≤ LIM then nx (W (v1 + 1)) v2 v3 v4 v5 v6 v7 v8 (apNl z1 [[]]) (z2 ++ [[.int v1, .bool true]]) else none else nx (W (v1 + 1)) v2 v3 v4 v5 v6 v7 v8 z1 z2; cV false [.bool] (Fsl04Can [.agg [.int v2, .sl false none 1 v4], .agg [.sl false none 1 v6, .sl false none 3 v8], .agg [.int v1, .bool false]]) fun b2 => bif b2 then if (v10.length + 1) * 16 ≤ LIM then q1 (apNl v9 [[]]) (v10 ++ [[.int v1, .bool false]]) else none else q1 v9 v10) else k0 v2 v3 v4 v5 v6 v7 v8 v9 v10
noncomputable def Lsl04Moves_3 : Lp := ⟨3, [2, 3, 5, 6], [5], 4, 36, hsl04Moves_3, xsl04Moves_3, Rsl04Moves_3⟩
noncomputable def Qsl04Moves : Fx := ⟨Go.Proofs.Try.f202, [.ro, .ro], false, mkEnv tys_d3 [(117, Ssl04Can)] [], fun _ => .stop, [Lsl04Moves_3]⟩
noncomputable def Fsl04Moves : List S → Option Res := veil Qsl04Moves.run
noncomputable def Ssl04Moves : Spec := ⟨[.ro, .ro], false, Fsl04Moves⟩
theorem msl04Moves (x1 : Int) (x2 : List (List C)) (x3 : List (List C)) (x4 : List (List C)) : Fsl04Moves [.agg [.int x1, .sl false none 1 x2], .agg [.sl false none 1 x3, .sl false none 3 x4]] = iterC (Rsl04Moves_3 (fun y1 y2 y3 y4 y5 y6 y7 y8 y9 => fr false 2 [.one (.sl true y8 2 y9)])) FUEL 0 x1 none x2 none x3 none x4 (some false) [] := Fx.eq (by kernel_rfl)
theorem stsl04Moves_3 : Lsl04Moves_3.Step Qsl04Moves.E Qsl04Moves.dr Qsl04Moves.lp ((findLoop 3 Qsl04Moves.code).getD .skip) := fun k nx v => by kernel_rfl
theorem oksl04Moves : CalleeOk Go.Proofs.Try.prog 202 Ssl04Moves := Fx.ok (F := Qsl04Moves) follows (envTy_mk tys_d3_eq) (envSpec_of (specsOk_cons oksl04Can specsOk_nil)) Go.Proofs.Try.func202 (by kernel_rfl) (by kernel_rfl) (by
  rw [show subs Qsl04Moves.code = [(findLoop 3 Qsl04Moves.code).getD .skip] by kernel_rfl]
  exact ⟨stepAt_some (by kernel_rfl) stsl04Moves_3, trivial⟩) (by kernel_rfl) (by kernel_rfl) rfl
theorem Fsl04Moves_at (p : Prog) (m : Machine) (h : isMa p m = true ∧ m.ths.length ≤ 1048576) : Fsl04Moves [S.agg (encProg false p), S.agg (encMa false m)] = some (S.one (C.sl true (some false) 2 ((movesM p m).map encMove)), [S.one C.unk, S.one C.unk]) := by
  obtain ⟨hm, hl⟩ := h
  rw [msl04Moves]
  refine (iter_fold (h := hsl04Moves_3) (List.range m.ths.length) (fun i (a : List Move) f => f (i : Int) p.cells none (p.codes.map (encCode false)) none (m.cells.map encInt) none (m.ths.map (encTh false)) (some false) (a.map encMove)) (fun a t => a ++ mvAt p m t) (fun a => fr false 2 [.one (.sl true (some false) 2 (a.map encMove))]) (fun i a => a.length ≤ 2 * i) (by simp; omega) ?_ ?_ [] (by simp)).trans ?_
  · intro nx a ha; simp [Rsl04Moves_3]
  · intro nx i a hi ha hW
    simp only [List.length_range] at hi
    have h2 := mvAt_len p m i
    refine ⟨by simp only [List.getElem_range, List.length_append]; omega, ?_⟩
    have hL : (a.length + 1) * 16 ≤ LIM := by unfold LIM; omega
    have hL2 : (a.length + 1 + 1) * 16 ≤ LIM := by unfold LIM; omega
    have c1 := Fsl04Can_at p m i false ⟨hm, by omega, by omega⟩
    have c2 := Fsl04Can_at p m i true ⟨hm, by omega, by omega⟩
    simp only [encMa, encProg] at c1 c2
    cases h1 : canMv p m i false <;> cases h2 : canMv p m i true <;> simp [Rsl04Moves_3, hi, c1, c2, h1, h2, mvAt, hL, hL2, apNl, hW]
  · show fr false 2 [.one (.sl true (some false) 2 ((movesM p m).map encMove))] = _
    simp
/-- A machine of few cells. -/
def maB (m : Machine) : Prop := m.cells.length ≤ 17 ∧ m.ths.length ≤ 3 ∧ ∀ t ∈ m.ths, t.vals.length ≤ 5 ∧ t.buf.length ≤ 4
theorem maB_of {p : Prog} {m : Machine} (hp : progOk p = true) (hm : isMa p m = true) : m.cells.length ≤ 16 ∧ m.ths.length ≤ 3 ∧ ∀ t ∈ m.ths, t.vals.length ≤ 4 ∧ t.buf.length ≤ 3 := by
  obtain ⟨h1, h2, h3⟩ := isMa_bT hp hm
  exact ⟨h1, h2, fun t ht => ⟨by have := (h3 t ht).1; omega, (h3 t ht).2⟩⟩
theorem progB_bndL {p : Prog} {a b : Nat} (h : progB p a b) (ha : a ≤ 1048576) (hb : b ≤ 1048576) : bndL p.codes := ⟨by have := h.1; omega, fun c hc => by have := h.2 c hc; omega⟩
theorem maB_set {m : Machine} {k : Nat} {th : Thread} (h : maB m) (hv : th.vals.length ≤ 5) (hb : th.buf.length ≤ 4) : maB ⟨m.cells, m.ths.set k th⟩ :=
  ⟨h.1, by simpa using h.2.1, fun t ht => by
    rcases List.mem_or_eq_of_mem_set ht with h' | rfl
    · exact h.2.2 t h'
    · exact ⟨hv, hb⟩⟩
/-! sl04DrawMachine: loop.example/g00712/spec.l04DrawMachine -/
@[reducible] def hsl04DrawMachine_5 : Sh := ⟨[.one (.o (.pl 0 0 [])), .one (.o (.pa 2 0 [none, some (1, 1)])), .one (.o (.pl 3 0 [])), .one (.o (.pl 6 0 [])), .one (.o (.i .i64))], [(false, [.o (.sl false 1), .o (.i .i64), .o (.i .i64)]), (false, [.o (.i .i64), .o (.sl true 1)]), (false, [.o (.i .i64), .o .u]), (false, [.o (.sl true 1), .o (.sl true 3)]), (true, [.o .u]), (true, [.o .u]), (false, [.o (.sl true 1), .o (.sl true 3)])]⟩
@[reducible] def xsl04DrawMachine_5 : List (Ex × Sh) := [(.exit 0, ⟨[.one (.o (.pl 0 0 [])), .one (.o (.pa 2 0 [none, some (1, 1)])), .one (.o (.pl 3 0 [])), .one (.o (.pl 6 0 []))], [(false, [.o (.sl false 1), .o (.i .i64), .o (.i .i64)]), (false, [.o (.i .i64), .o (.sl true 1)]), (false, [.o (.i .i64), .o .u]), (false, [.o (.sl true 1), .o (.sl true 3)]), (true, [.o .u]), (true, [.o .u]), (false, [.o (.sl true 1), .o (.sl true 3)]), (true, [.o (.sl true 2)])]⟩), (.exit 0, ⟨[.one (.o (.pl 0 0 [])), .one (.o (.pa 2 0 [none, some (1, 1)])), .one (.o (.pl 3 0 [])), .one (.o (.pl 6 0 []))], [(false, [.o (.sl false 1), .o (.i .i64), .o (.i .i64)]), (false, [.o (.i .i64), .o (.sl true 1)]), (false, [.o (.i .i64), .o .u]), (false, [.o (.sl true 1), .o (.sl true 3)]), (true, [.o .u]), (true, [.o .u]), (false, [.o (.sl true 1), .o (.sl true 3)])]⟩)]
noncomputable def Rsl04DrawMachine_5 : KC xsl04DrawMachine_5 (hsl04DrawMachine_5.K → hsl04DrawMachine_5.K) := fun k0 k1 nx v1 v2 v3 v4 v5 v6 v7 v8 v9 v10 v11 v12 v13 v14 v15 v16 v17 => bif decide (v1 > 0) then cV false [.sl 2] (Fsl04Moves [.agg [.int v9, .sl false none 1 (freezeRows v8)], .agg [.sl false none 1 (freezeRows v15), .sl false none 3 (freezeRows v17)]]) fun o4 l4 => bif (l4.length : Int) == 0 then k0 v2 v3 v4 v5 v6 v7 v8 v9 v10 v11 v12 v13 v14 v15 v16 v17 o4 l4 else both (dup (cOV [.cub 1] false [.int .i64] (Fsl01Below [.one (.bx [.sl false v2 1 v3, .int v4, .int v5]), .one (.int (l4.length : Int))]) fun o5 l5 n4 n5 n6 => ix n6 l4 ((l4[Int.toNat n6]?).bind fun w1 => tOwn [.int .i64, .bool] w1 fun n7 b2 => cV true [.sl 1, .sl 3] (Fsl04Do [.agg [.int v9, .sl false none 1 (freezeRows v8)], .agg [.sl false none 1 (freezeRows v15), .sl false none 3 (freezeRows v17)], .agg [.int n7, .bool b2]]) fun o6 l6 o7 l7 => nx (W (v1 - 1)) o5 l5 n4 n5 v6 v7 v8 v9 v10 v11 v12 v13 none l6 none l7))) (both (dup (cOV [.cub 1] false [.int .i64] (Fsl01Below [.one (.bx [.sl false v2 1 v3, .int v4, .int v5]), .one (.int (l4.length : Int))]) fun o5 l5 n4 n5 n6 => ix n6 l4 ((l4[Int.toNat n6]?).bind fun w1 => tOwn [.int .i64, .bool] w1 fun n7 b2 => cV true [.sl 1, .sl 3] (Fsl04Do [.agg [.int v9, .sl false none 1 (freezeRows v8)], .agg [.sl false none 1 (freezeRows v15), .sl false none 3 (freezeRows v17)], .agg [.int n7, .bool b2]]) fun o6 l6 o7 l7 => nx (W (v1 - 1)) o5 l5 n4 n5 v6 v7 v8 v9 v10 v11 v12 v13 none l6 none l7))) (cOV [.cub 1] false [.int .i64] (Fsl01Below [.one (.bx [.sl false v2 1 v3, .int v4, .int v5]), .one (.int (l4.length : Int))]) fun o5 l5 n4 n5 n6 => ix n6 l4 ((l4[Int.toNat n6]?).bind fun w1 => tOwn [.int .i64, .bool] w1 fun n7 b2 => dup (cV true [.sl 1, .sl 3] (Fsl04Do [.agg [.int v9, .sl false none 1 (freezeRows v8)], .agg [.sl false none 1 (freezeRows v15), .sl false none 3 (freezeRows v17)], .agg [.int n7, .bool b2]]) fun o6 l6 o7 l7 => nx (W (v1 - 1)) o5 l5 n4 n5 v6 v7 v8 v9 v10 v11 v12 v13 none l6 none l7)))) else k1 v2 v3 v4 v5 v6 v7 v8 v9 v10 v11 v12 v13 v14 v15 v16 v17
noncomputable def Lsl04DrawMachine_5 : Lp := ⟨5, [0, 3, 4, 5, 7], [0, 3, 4, 5], 7, 112, hsl04DrawMachine_5, xsl04DrawMachine_5, Rsl04DrawMachine_5⟩
noncomputable def Qsl04DrawMachine : Fx := ⟨Go.Proofs.Try.f191, [.io, .io], true, (mkEnv tys_d3 [(100, Ssl01Once), (128, Ssl01Below), (149, Ssl01PickInt), (201, SsStart), (202, Ssl04Moves), (203, Ssl04Do), (204, Ssl03DrawBuf), (205, Ssl01DrawMem)] [(100, [.cub 1]), (128, [.cub 1]), (149, [.cub 1]), (204, [.cub 1]), (205, [.cub 1])]).paS, fun id => bif Nat.beq id 9 then .ac [0, 1] (.sq [2, 3, 4, 5] (.alt 0 (.alt 1 (.sq [6, 7, 8, 9, 10] .stop) (.sq [6, 7, 8, 1, 9, 10] .stop)) (.alt 1 (.alt 0 (.sq [6, 7, 8, 9, 10] .stop) (.sq [6, 7, 8, 0, 9, 10] .stop)) (.sq [6, 7, 8] (.alt 0 (.sq [1, 9, 10] .stop) (.sq [1, 0, 9, 10] .stop)))))) else bif Nat.beq id 14 then .ac [1] (.sq [0, 2, 3, 4, 5, 6, 7, 8, 9, 10, 11, 12, 13, 14, 15, 16] (.alt 1 (.sq [17, 18, 19, 20, 21] .stop) (.sq [17] (.alt 1 (.sq [18, 19, 20, 21] .stop) (.sq [18, 1, 19, 20, 21] .stop))))) else bif Nat.beq id 16 then .ac [1] (.sq [0, 2, 3, 4, 5, 6, 7, 8] (.alt 1 (.sq [9, 10, 11, 12, 13] .stop) (.sq [9] (.alt 1 (.sq [10, 11, 12, 13] .stop) (.sq [10, 1, 11, 12, 13] .stop))))) else bif Nat.beq id 18 then .ac [1] (.sq [0, 2, 3, 4, 5, 6] (.alt 1 (.sq [7, 8, 9, 10] .stop) (.sq [7, 1, 8, 9, 10] .stop))) else .stop, [Lsl04DrawMachine_5]⟩
noncomputable def Fsl04DrawMachine : List S → Option Res := veil Qsl04DrawMachine.run
noncomputable def Ssl04DrawMachine : Spec := ⟨[.io, .io], true, Fsl04DrawMachine⟩
theorem msl04DrawMachine (x1 : Option Bool) (x2 : List (List C)) (x3 : Int) (x4 : Int) (x5 : Int) (x6 : List (List C)) : Fsl04DrawMachine [.one (.bx [.sl false x1 1 x2, .int x3, .int x4]), .agg [.int x5, .sl true none 1 x6]] = cT [(true, [.sl 1, .sl 3]), (false, [.bool])] (FsStart [.agg [.int x5, .sl false none 1 (freezeRows x6)]]) fun o1 l1 o2 l2 b1 => bif !b1 then fin true [.one (.bx [.sl false x1 1 x2, .int x3, .int x4]), .agg [.int x5, .sl true none 1 x6]] [.agg [.sl true none 1 [], .sl true none 3 []]] [.one (.bx [.sl false x1 1 x2, .int x3, .int x4]), .agg [.int x5, .sl true none 1 x6]] else cOV [.cub 1] false [.int .i64] (Fsl01Below [.one (.bx [.sl false x1 1 x2, .int x3, .int x4]), .one (.int 14)]) fun o3 l3 n1 n2 n3 => iterC (Rsl04DrawMachine_5 (fun y1 y2 y3 y4 y5 y6 y7 y8 y9 y10 y11 y12 y13 y14 y15 y16 y17 y18 => (let q1 : (Option Bool) → (List (List C)) → (Option Bool) → (List (List C)) → (Option Bool) → (List (List C)) → Int → Int → Option Res := fun z1 z2 z3 z4 z5 z6 z7 z8 => fin true [.one (.bx [.sl false x1 1 x2, .int x3, .int x4]), .agg [.int x5, .sl true none 1 x6]] [.agg [.sl true none 1 z2, .sl true none 3 z4]] [.one (.bx [.sl false z5 1 z6, .int z7, .int z8]), .agg [.int y5, .sl true y6 1 y7]]; cOV [.cub 1] false [.bool] (Fsl01Once [.one (.bx [.sl false y1 1 y2, .int y3, .int y4]), .one (.int 15)]) fun o4 l4 n4 n5 b2 => bif b2 then cOV [.cub 1] false [.int .i64] (Fsl01Below [.one (.bx [.sl false o4 1 l4, .int n4, .int n5]), .one (.int (y16.length : Int))]) fun o5 l5 n6 n7 n8 => cOV [.cub 1] false [.int .i64] (Fsl01Below [.one (.bx [.sl false o5 1 l5, .int n6, .int n7]), .one (.int 5)]) fun o6 l6 n9 n10 n11 => bif n11 == 0 then ix n8 y7 ((y7[Int.toNat n8]?).bind fun w1 => tOwn [.sl 4] w1 ((y7[Int.toNat n8]?).bind fun w2 => (w2[0]?).bind fun c1 => (C.asOwn 4 c1).bind fun q2 => ix n8 y7 ((y7[Int.toNat n8]?).bind fun w3 => tOwn [.sl 4] w3 ((y7[Int.toNat n8]?).bind fun w4 => (w4[0]?).bind fun c2 => (C.asOwn 4 c2).bind fun q3 => both (cOV [.cub 1] false [.int .i64] (Fsl01PickInt [.one (.bx [.sl false o6 1 l6, .int n9, .int n10]), .one (.sl true (some false) 1 [[.int (-1)], [.int (q2.2.length : Int)], [.int (W ((q3.2.length : Int) + 1))]])]) fun o7 l7 n12 n13 n14 => ix n8 y16 (oc (.int .i64) y16 (Int.toNat n8) 0 ((let e1 : List (List C) := md y16 (Int.toNat n8) 0 (.int n14); q1 y13 y14 y15 e1 o7 l7 n12 n13)))) (dup (cOV [.cub 1] false [.int .i64] (Fsl01PickInt [.one (.bx [.sl false o6 1 l6, .int n9, .int n10]), .one (.sl true (some false) 1 [[.int (-1)], [.int (q2.2.length : Int)], [.int (W ((q3.2.length : Int) + 1))]])]) fun o7 l7 n12 n13 n14 => ix n8 y16 (oc (.int .i64) y16 (Int.toNat n8) 0 ((let e1 : List (List C) := md y16 (Int.toNat n8) 0 (.int n14); q1 y13 y14 y15 e1 o7 l7 n12 n13))))))))) else bif n11 == 1 then ix n8 y16 ((y16[Int.toNat n8]?).bind fun w5 => tOwn [.sl 1] (List.drop 1 w5) (both ((y16[Int.toNat n8]?).bind fun w6 => (w6[1]?).bind fun c3 => own3 c3 fun o8 m1 l8 => asB 1 (.sl true o8 m1 l8) fun o9 l9 => if (l9.length + 1) * 8 ≤ LIM then ix n8 (md y16 (Int.toNat n8) 1 .unk) (((md y16 (Int.toNat n8) 1 .unk)[Int.toNat n8]?).bind fun w7 => (w7[1]?).bind fun c4 => (let e2 : List (List C) := md (md y16 (Int.toNat n8) 1 .unk) (Int.toNat n8) 1 (.sl true none 1 (l9 ++ [[.int 0]])); q1 y13 y14 y15 e2 o6 l6 n9 n10)) else none) (dup ((y16[Int.toNat n8]?).bind fun w6 => (w6[1]?).bind fun c3 => own3 c3 fun o8 m1 l8 => asB 1 (.sl true o8 m1 l8) fun o9 l9 => if (l9.length + 1) * 8 ≤ LIM then ix n8 (md y16 (Int.toNat n8) 1 .unk) (((md y16 (Int.toNat n8) 1 .unk)[Int.toNat n8]?).bind fun w7 => (w7[1]?).bind fun c4 => (let e2 : List (List C) := md (md y16 (Int.toNat n8) 1 .unk) (Int.toNat n8) 1 (.sl true none 1 (l9 ++ [[.int 0]])); q1 y13 y14 y15 e2 o6 l6 n9 n10)) else none)))) else bif n11 == 2 then dup (cOV [.cub 1] false [.sl 2] (Fsl03DrawBuf [.one (.bx [.sl false o6 1 l6, .int n9, .int n10]), .one (.int (W (y8 + 1)))]) fun o10 l10 n15 n16 o11 l11 => ix n8 y16 ((y16[Int.toNat n8]?).bind fun w8 => (w8[2]?).bind fun c5 => (let e3 : List (List C) := md y16 (Int.toNat n8) 2 (.sl true none 2 l11); q1 y13 y14 y15 e3 o10 l10 n15 n16))) else bif n11 == 3 then cOV [.cub 1] true [.sl 1] (Fsl01DrawMem [.one (.bx [.sl false o6 1 l6, .int n9, .int n10]), .one (.sl false (some true) 1 [])]) fun o12 l12 n17 n18 o13 l13 => q1 none l13 y15 y16 o12 l12 n17 n18 else bif n11 == 4 then if 0 ≤ (0 : Int) ∧ (0 : Int) ≤ n8 ∧ n8 ≤ (y16.length : Int) then q1 y13 y14 none (List.drop 0 (List.take (Int.toNat n8) y16)) o6 l6 n9 n10 else none else q1 y13 y14 y15 y16 o6 l6 n9 n10 else q1 y13 y14 y15 y16 o4 l4 n4 n5)) (fun y19 y20 y21 y22 y23 y24 y25 y26 y27 y28 y29 y30 y31 y32 y33 y34 => (let q4 : (Option Bool) → (List (List C)) → (Option Bool) → (List (List C)) → (Option Bool) → (List (List C)) → Int → Int → Option Res := fun z9 z10 z11 z12 z13 z14 z15 z16 => fin true [.one (.bx [.sl false x1 1 x2, .int x3, .int x4]), .agg [.int x5, .sl true none 1 x6]] [.agg [.sl true none 1 z10, .sl true none 3 z12]] [.one (.bx [.sl false z13 1 z14, .int z15, .int z16]), .agg [.int y23, .sl true y24 1 y25]]; cOV [.cub 1] false [.bool] (Fsl01Once [.one (.bx [.sl false y19 1 y20, .int y21, .int y22]), .one (.int 15)]) fun o14 l14 n19 n20 b3 => bif b3 then cOV [.cub 1] false [.int .i64] (Fsl01Below [.one (.bx [.sl false o14 1 l14, .int n19, .int n20]), .one (.int (y34.length : Int))]) fun o15 l15 n21 n22 n23 => cOV [.cub 1] false [.int .i64] (Fsl01Below [.one (.bx [.sl false o15 1 l15, .int n21, .int n22]), .one (.int 5)]) fun o16 l16 n24 n25 n26 => bif n26 == 0 then ix n23 y25 ((y25[Int.toNat n23]?).bind fun w9 => tOwn [.sl 4] w9 ((y25[Int.toNat n23]?).bind fun w10 => (w10[0]?).bind fun c6 => (C.asOwn 4 c6).bind fun q5 => ix n23 y25 ((y25[Int.toNat n23]?).bind fun w11 => tOwn [.sl 4] w11 ((y25[Int.toNat n23]?).bind fun w12 => (w12[0]?).bind fun c7 => (C.asOwn 4 c7).bind fun q6 => both (cOV [.cub 1] false [.int .i64] (Fsl01PickInt [.one (.bx [.sl false o16 1 l16, .int n24, .int n25]), .one (.sl true (some false) 1 [[.int (-1)], [.int (q5.2.length : Int)], [.int (W ((q6.2.length : Int) + 1))]])]) fun o17 l17 n27 n28 n29 => ix n23 y34 (oc (.int .i64) y34 (Int.toNat n23) 0 ((let e4 : List (List C) := md y34 (Int.toNat n23) 0 (.int n29); q4 y31 y32 y33 e4 o17 l17 n27 n28)))) (dup (cOV [.cub 1] false [.int .i64] (Fsl01PickInt [.one (.bx [.sl false o16 1 l16, .int n24, .int n25]), .one (.sl true (some false) 1 [[.int (-1)], [.int (q5.2.length : Int)], [.int (W ((q6.2.length : Int) + 1))]])]) fun o17 l17 n27 n28 n29 => ix n23 y34 (oc (.int .i64) y34 (Int.toNat n23) 0 ((let e4 : List (List C) := md y34 (Int.toNat n23) 0 (.int n29); q4 y31 y32 y33 e4 o17 l17 n27 n28))))))))) else bif n26 == 1 then ix n23 y34 ((y34[Int.toNat n23]?).bind fun w13 => tOwn [.sl 1] (List.drop 1 w13) (both ((y34[Int.toNat n23]?).bind fun w14 => (w14[1]?).bind fun c8 => own3 c8 fun o18 m2 l18 => asB 1 (.sl true o18 m2 l18) fun o19 l19 => if (l19.length + 1) * 8 ≤ LIM then ix n23 (md y34 (Int.toNat n23) 1 .unk) (((md y34 (Int.toNat n23) 1 .unk)[Int.toNat n23]?).bind fun w15 => (w15[1]?).bind fun c9 => (let e5 : List (List C) := md (md y34 (Int.toNat n23) 1 .unk) (Int.toNat n23) 1 (.sl true none 1 (l19 ++ [[.int 0]])); q4 y31 y32 y33 e5 o16 l16 n24 n25)) else none) (dup ((y34[Int.toNat n23]?).bind fun w14 => (w14[1]?).bind fun c8 => own3 c8 fun o18 m2 l18 => asB 1 (.sl true o18 m2 l18) fun o19 l19 => if (l19.length + 1) * 8 ≤ LIM then ix n23 (md y34 (Int.toNat n23) 1 .unk) (((md y34 (Int.toNat n23) 1 .unk)[Int.toNat n23]?).bind fun w15 => (w15[1]?).bind fun c9 => (let e5 : List (List C) := md (md y34 (Int.toNat n23) 1 .unk) (Int.toNat n23) 1 (.sl true none 1 (l19 ++ [[.int 0]])); q4 y31 y32 y33 e5 o16 l16 n24 n25)) else none)))) else bif n26 == 2 then dup (cOV [.cub 1] false [.sl 2] (Fsl03DrawBuf [.one (.bx [.sl false o16 1 l16, .int n24, .int n25]), .one (.int (W (y26 + 1)))]) fun o20 l20 n30 n31 o21 l21 => ix n23 y34 ((y34[Int.toNat n23]?).bind fun w16 => (w16[2]?).bind fun c10 => (let e6 : List (List C) := md y34 (Int.toNat n23) 2 (.sl true none 2 l21); q4 y31 y32 y33 e6 o20 l20 n30 n31))) else bif n26 == 3 then cOV [.cub 1] true [.sl 1] (Fsl01DrawMem [.one (.bx [.sl false o16 1 l16, .int n24, .int n25]), .one (.sl false (some true) 1 [])]) fun o22 l22 n32 n33 o23 l23 => q4 none l23 y33 y34 o22 l22 n32 n33 else bif n26 == 4 then if 0 ≤ (0 : Int) ∧ (0 : Int) ≤ n23 ∧ n23 ≤ (y34.length : Int) then q4 y31 y32 none (List.drop 0 (List.take (Int.toNat n23) y34)) o16 l16 n24 n25 else none else q4 y31 y32 y33 y34 o16 l16 n24 n25 else q4 y31 y32 y33 y34 o14 l14 n19 n20))) FUEL n3 o3 l3 n1 n2 x5 none x6 x5 (some true) [] (some true) [] none l1 none l2 := Fx.eq (by kernel_rfl)
theorem stsl04DrawMachine_5 : Lsl04DrawMachine_5.Step Qsl04DrawMachine.E Qsl04DrawMachine.dr Qsl04DrawMachine.lp ((findLoop 5 Qsl04DrawMachine.code).getD .skip) := fun k nx v => by kernel_rfl
theorem oksl04DrawMachine : CalleeOk Go.Proofs.Try.prog 191 Ssl04DrawMachine := Fx.ok (F := Qsl04DrawMachine) follows (envTy_mk tys_d3_eq).paS (envSpec_of (specsOk_cons oksl01Once (specsOk_cons oksl01Below (specsOk_cons oksl01PickInt (specsOk_cons oksStart (specsOk_cons oksl04Moves (specsOk_cons oksl04Do (specsOk_cons oksl03DrawBuf (specsOk_cons oksl01DrawMem specsOk_nil))))))))).paS Go.Proofs.Try.func191 (by kernel_rfl) (by kernel_rfl) (by
  rw [show subs Qsl04DrawMachine.code = [(findLoop 5 Qsl04DrawMachine.code).getD .skip] by kernel_rfl]
  exact ⟨stepAt_some (by kernel_rfl) stsl04DrawMachine_5, trivial⟩) (by kernel_rfl) (by kernel_rfl) rfl
theorem lpMachine (p : Prog) (hp : progOk p = true) (n : Nat) (hn : n ≤ 100) (Q : Res → Prop) (K0) (K1)
    (h0 : ∀ (c' : Cu) (m : Machine) (o : Option Bool) (l : List (List C)), cuOk c' → isMa p m = true → Ok (K0 c'.o (c'.bs.map encB) c'.i c'.h p.cells none (p.codes.map (encCode true)) p.cells (some true) [] (some true) [] none (m.cells.map encInt) none (m.ths.map (encTh true)) o l) Q)
    (h1 : ∀ (c' : Cu) (m : Machine), cuOk c' → isMa p m = true → Ok (K1 c'.o (c'.bs.map encB) c'.i c'.h p.cells none (p.codes.map (encCode true)) p.cells (some true) [] (some true) [] none (m.cells.map encInt) none (m.ths.map (encTh true))) Q)
    (c : Cu) (m : Machine) (hc : cuOk c) (hm : isMa p m = true) :
    Ok (iterC (Rsl04DrawMachine_5 K0 K1) FUEL (n : Int) c.o (c.bs.map encB) c.i c.h p.cells none (p.codes.map (encCode true)) p.cells (some true) [] (some true) [] none (m.cells.map encInt) none (m.ths.map (encTh true))) Q := by
  refine iter_ok (h := hsl04DrawMachine_5) n (fun i (a : Cu × Machine) f => f ((n - i : Nat) : Int) a.1.o (a.1.bs.map encB) a.1.i a.1.h p.cells none (p.codes.map (encCode true)) p.cells (some true) [] (some true) [] none (a.2.cells.map encInt) none (a.2.ths.map (encTh true)))
    (fun i a => cuOk a.1 ∧ isMa p a.2 = true) Q (by omega) ?_ ?_ (c, m) ⟨hc, hm⟩
  · intro nx a ⟨g1, g2⟩
    exact ok_of (by simp [Rsl04DrawMachine_5]) (h1 a.1 a.2 g1 g2)
  · intro nx i a hi ⟨g1, g2⟩ hW hnx
    obtain ⟨b1, b2, b3⟩ := maB_of hp g2
    have hpos : (0 : Int) < ((n - i : Nat) : Int) := by omega
    have hpn : 0 < n - i := by omega
    have hw : W (((n - i : Nat) : Int) - 1) = ((n - (i + 1) : Nat) : Int) := by rw [W_eq (by omega) (by omega)]; omega
    have hmv := Fsl04Moves_at p a.2 ⟨g2, by omega⟩
    simp only [encProg, encMa] at hmv
    have hlen := movesTo_len p a.2 a.2.ths.length
    by_cases he : movesM p a.2 = []
    · rw [he] at hmv
      exact ok_of (by simp [Rsl04DrawMachine_5, hpn, hmv]) (h0 a.1 a.2 (some false) [] g1 g2)
    · have hne : 0 < (movesM p a.2).length := List.length_pos_iff.2 he
      obtain ⟨k, c3, e3, hc3, hk0, hk1⟩ := dBelow a.1 ((movesM p a.2).length : Int) g1
      have hk1 := hk1 (by omega)
      obtain ⟨k, rfl⟩ := Int.eq_ofNat_of_zero_le hk0
      have hk : k < (movesM p a.2).length := by omega
      have hcan := mem_movesTo (List.getElem_mem hk)
      have hdo := Fsl04Do_at p a.2 (movesM p a.2)[k].t (movesM p a.2)[k].drain ⟨hp, g2, hcan⟩
      simp only [encProg, encMa] at hdo
      have hz : ((((movesM p a.2).length : Nat) : Int) == 0) = false := by simp; omega
      exact ok_of (by simp [Rsl04DrawMachine_5, hpn, hmv, e3, hk, hdo, hw, hz]) (hnx (c3, mvM p a.2 (movesM p a.2)[k].t (movesM p a.2)[k].drain) ⟨hc3, isMa_mv hp g2 hcan⟩)
theorem lpMachine2 (p : Prog) (hp : progOk p = true) (n : Nat) (hn : n ≤ 100) (Q : Res → Prop) (K0) (K1)
    (hK : K1 = fun a b c d e f g h i j k l m n o q => K0 a b c d e f g h i j k l m n o q none [])
    (h0 : ∀ (c' : Cu) (m : Machine) (o : Option Bool) (l : List (List C)), cuOk c' → isMa p m = true → Ok (K0 c'.o (c'.bs.map encB) c'.i c'.h p.cells none (p.codes.map (encCode true)) p.cells (some true) [] (some true) [] none (m.cells.map encInt) none (m.ths.map (encTh true)) o l) Q)
    (c : Cu) (m : Machine) (hc : cuOk c) (hm : isMa p m = true) :
    Ok (iterC (Rsl04DrawMachine_5 K0 K1) FUEL (n : Int) c.o (c.bs.map encB) c.i c.h p.cells none (p.codes.map (encCode true)) p.cells (some true) [] (some true) [] none (m.cells.map encInt) none (m.ths.map (encTh true))) Q :=
  lpMachine p hp n hn Q K0 K1 h0 (fun c' m h1 h2 => by rw [hK]; exact h0 c' m none [] h1 h2) c m hc hm
theorem dMachine (c : Cu) (p : Prog) (hc : cuOk c) (hpb : progB p 5 1000) : ∃ (m : Machine) (c' : Cu), Fsl04DrawMachine [.one (encCu c), .agg (encProg true p)] = some (.agg (encMa true m), [.one (encCu c'), .agg (encProg true p)]) ∧ cuOk c' ∧ maB m := by
  have key : Ok (Fsl04DrawMachine [.one (encCu c), .agg (encProg true p)]) (fun r => ∃ (m : Machine) (c' : Cu), r = (.agg (encMa true m), [.one (encCu c'), .agg (encProg true p)]) ∧ cuOk c' ∧ maB m) := by
    rw [msl04DrawMachine]
    have hs := FsStart_at p (progB_bndL hpb (by omega) (by omega))
    simp only [encProg, encMa] at hs
    cases hp : progOk p with
    | false =>
      rw [hp] at hs
      exact ok_eq (r := (.agg (encMa true ⟨[], []⟩), [.one (encCu c), .agg (encProg true p)])) (by simp [hs]) ⟨_, c, rfl, hc, by simp [maB]⟩
    | true =>
      rw [hp] at hs
      simp only [cond_true] at hs
      simp -zeta -zetaHave only [encCode_freeze, hs, cT_some, tTup, S.parts, Option.bind_some, List.length_cons, List.length_nil, if_true, tParts, List.head?_cons, List.tail_cons, tOne, cells?_agg, tRes, asOwn_sl, cells?_one, asBool_bool, Bool.not_true, cond_false]
      refine ok_below hc fun x c1 hc1 hx hx' => ?_
      have hx' := hx' (by omega)
      obtain ⟨n, rfl⟩ := Int.eq_ofNat_of_zero_le hx
      refine lpMachine2 p hp n (by omega) _ _ _ rfl ?_ c1 (startM p) hc1 (isMa_start hp)
      · intro c m o l hc hm
        obtain ⟨b1, b2, b3⟩ := maB_of hp hm
        have hB : maB m := ⟨by omega, b2, fun t ht => by have := b3 t ht; omega⟩
        have hlen := (isMa_iff.1 hm).2.2.1
        have hp1 : 1 ≤ p.codes.length := by
          simp only [progOk, inB, Bool.and_eq_true, decide_eq_true_eq] at hp
          omega
        extract_lets -underBinder q1
        have hq1 : ∀ (a b : Option Bool) (m : Machine) (c : Cu), maB m → cuOk c → Ok (q1 a (m.cells.map encInt) b (m.ths.map (encTh true)) c.o (c.bs.map encB) c.i c.h) (fun r => ∃ (m : Machine) (c' : Cu), r = (.agg (encMa true m), [.one (encCu c'), .agg (encProg true p)]) ∧ cuOk c' ∧ maB m) := fun a b m c hm hc =>
          ok_eq (r := (.agg (encMa true m), [.one (encCu c), .agg (encProg true p)])) (by simp [q1]) ⟨m, c, rfl, hc, hm⟩
        clear_value q1
        refine ok_once hc fun b c2 hc2 => ?_
        cases b with
        | false => exact hq1 _ _ m c2 hB hc2
        | true =>
          simp -zeta -zetaHave only [cond_true, List.length_map]
          refine ok_below hc2 fun t c3 hc3 ht0 ht1 => ok_below hc3 fun z c4 hc4 _ _ => ?_
          have ht1 := ht1 (by omega)
          obtain ⟨t, rfl⟩ := Int.eq_ofNat_of_zero_le ht0
          have ht : t < m.ths.length := by omega
          have htc : t < p.codes.length := by omega
          have hth := hB.2.2 _ (List.getElem_mem ht)
          have hcl := hpb.2 _ (List.getElem_mem htc)
          cases h0 : z == 0 with
          | true =>
            obtain ⟨v, c5, e5, hc5, _⟩ := dPick c4 (some false) [-1, (p.codes[t].length : Int), W ((p.codes[t].length : Int) + 1)] hc4 (by simp)
            simp only [List.map_cons, List.map_nil] at e5
            exact ok_of (by simp [-List.map_set, ht, htc, C.asOwn, e5]) (hq1 none none ⟨m.cells, m.ths.set t ⟨v, m.ths[t].vals, m.ths[t].buf⟩⟩ c5 (maB_set hB hth.1 hth.2) hc5)
          | false =>
            cases h1 : z == 1 with
            | true =>
              have hL : (m.ths[t].vals.length + 1) * 8 ≤ LIM := by unfold LIM; omega
              have h4 := b3 _ (List.getElem_mem ht)
              have hsn : m.ths[t].vals.map encInt ++ [[C.int 0]] = (m.ths[t].vals ++ [0]).map encInt := by simp
              have hg : (md (m.ths.map (encTh true)) t 1 .unk)[t]'(by simpa using ht) = [.int m.ths[t].pc, .unk, .sl true none 2 (m.ths[t].buf.map encSlot)] := by
                have h := md_self (m.ths.map (encTh true)) t 1 .unk
                rw [List.getElem?_eq_getElem (by simpa using ht)] at h
                simpa [ht] using h
              exact ok_of (by simp [-List.map_set, -List.map_append, ht, hL, hsn, hg]) (hq1 none none ⟨m.cells, m.ths.set t ⟨m.ths[t].pc, m.ths[t].vals ++ [0], m.ths[t].buf⟩⟩ c4 (maB_set hB (by simp; omega) hth.2) hc4)
            | false =>
              cases h2 : z == 2 with
              | true =>
                obtain ⟨b, c5, e5, hc5, hb⟩ := dBuf c4 (W (p.cells + 1)) hc4
                have hmd := md_buf ht b
                exact ok_of (by simp [-List.map_set, ht, e5, hmd]) (hq1 none none ⟨m.cells, m.ths.set t { m.ths[t] with buf := b }⟩ c5 (maB_set hB hth.1 hb) hc5)
              | false =>
                cases h3 : z == 3 with
                | true =>
                  obtain ⟨l, c5, e5, hc5, hl⟩ := dMem c4 (some true) [] hc4
                  exact ok_of (by simp [e5]) (hq1 none none ⟨l, m.ths⟩ c5 ⟨hl, hB.2⟩ hc5)
                | false =>
                  cases h4 : z == 4 with
                  | true =>
                    have hle : (t : Int) ≤ (m.ths.length : Int) := by omega
                    exact ok_of (by simp [-List.map_take, hle, ← List.map_take]) (hq1 none none ⟨m.cells, m.ths.take t⟩ c4 ⟨hB.1, by simp; omega, fun th h => hB.2.2 th (List.mem_of_mem_take h)⟩ hc4)
                  | false => exact hq1 _ _ m c4 hB hc4
  obtain ⟨r, h1, x, c', rfl, h2⟩ := key
  exact ⟨x, c', h1, h2⟩
/-! sl04Draw: loop.example/g00712/spec.l04Draw -/
noncomputable def Qsl04Draw : Fx := ⟨Go.Proofs.Try.f164, [.ro], true, mkEnv tys_d3 [(100, Ssl01Once), (101, Ssl02Bend), (191, Ssl04DrawMachine), (97, Ssl01New), (98, Ssl02DrawProg)] [(100, [.cub 1]), (101, [.cub 1]), (191, [.cub 1, .agg [.int .i64, .sl 1]]), (97, [.cur 1]), (98, [.cub 1])], fun id => bif Nat.beq id 5 then .ac [1] (.sq [0, 2, 3] (.alt 1 (.sq [4, 5, 6, 7] .stop) (.sq [4, 5, 1, 6, 7] .stop))) else .stop, []⟩
noncomputable def Fsl04Draw : List S → Option Res := veil Qsl04Draw.run
noncomputable def Ssl04Draw : Spec := ⟨[.ro], true, Fsl04Draw⟩
theorem msl04Draw (x1 : Option Bool) (x2 : List (List C)) : Fsl04Draw [.one (.sl false x1 1 x2)] = cOV [.cur 1] false [.other] (Fsl01New [.one (.sl false x1 1 x2)]) fun c1 => cuK 1 c1 fun o1 l1 n1 n2 => cOV [.cub 1] true [.int .i64, .sl 1] (Fsl02DrawProg [.one (.bx [.sl false o1 1 l1, .int n1, .int n2]), .one (.int 6)]) fun o2 l2 n3 n4 n5 o3 l3 => (let q1 : (Option Bool) → (List (List C)) → Int → Int → Int → (List (List C)) → Option Res := fun z1 z2 z3 z4 z5 z6 => (let q2 : (List (List C)) → (List (List C)) → (List (List C)) → (Option Bool) → (List (List C)) → Int → Int → Option Res := fun z7 z8 z9 z10 z11 z12 z13 => fr true 1 [.one (.bx [.sl false z10 1 z11, .int z12, .int z13]), .agg [.int z5, .sl true none 1 z7], .agg [.sl true none 1 z8, .sl true none 3 z9]]; dup (cOV [.cub 1, .agg [.int .i64, .sl 1]] true [.sl 1, .sl 3] (Fsl04DrawMachine [.one (.bx [.sl false z1 1 z2, .int z3, .int z4]), .agg [.int z5, .sl true none 1 z6]]) fun o4 l4 n6 n7 n8 o5 l5 o6 l6 o7 l7 => q2 l5 l6 l7 o4 l4 n6 n7)); cOV [.cub 1] false [.bool] (Fsl01Once [.one (.bx [.sl false o2 1 l2, .int n3, .int n4]), .one (.int 20)]) fun o8 l8 n9 n10 b1 => bif b1 then cOV [.cub 1] true [.int .i64, .sl 1] (Fsl02Bend [.one (.bx [.sl false o8 1 l8, .int n9, .int n10]), .agg [.int n5, .sl true none 1 l3]]) fun o9 l9 n11 n12 n13 o10 l10 => q1 o9 l9 n11 n12 n13 l10 else q1 o8 l8 n9 n10 n5 l3) := Fx.eq (by kernel_rfl)
theorem oksl04Draw : CalleeOk Go.Proofs.Try.prog 164 Ssl04Draw := Fx.ok (F := Qsl04Draw) follows (envTy_mk tys_d3_eq) (envSpec_of (specsOk_cons oksl01Once (specsOk_cons oksl02Bend (specsOk_cons oksl04DrawMachine (specsOk_cons oksl01New (specsOk_cons oksl02DrawProg specsOk_nil)))))) Go.Proofs.Try.func164 (by kernel_rfl) (by kernel_rfl) (by rw [show subs Qsl04Draw.code = [] by kernel_rfl]; trivial) (by kernel_rfl) (by kernel_rfl) rfl
theorem dDraw (o : Option Bool) (bs : List Int) (h : bs.length ≤ 1099511627776) : ∃ (c : Cu) (p : Prog) (m : Machine), Fsl04Draw [.one (.sl false o 1 (bs.map encB))] = some (.tup [.one (encCu c), .agg (encProg true p), .agg (encMa true m)], [.one .unk]) ∧ cuOk c ∧ progB p 5 1000 ∧ maB m := by
  have key : Ok (Fsl04Draw [.one (.sl false o 1 (bs.map encB))]) (fun r => ∃ (c : Cu) (p : Prog) (m : Machine), r = (.tup [.one (encCu c), .agg (encProg true p), .agg (encMa true m)], [.one .unk]) ∧ cuOk c ∧ progB p 5 1000 ∧ maB m) := by
    rw [msl04Draw]
    obtain ⟨c, e, hc⟩ := dNew o bs h
    simp -zeta -zetaHave only [e, cOV_some, tOuts, List.head?_cons, Option.bind_some, tOne, cells?_one, List.length_cons, List.length_nil, if_true, tRes, id, cuK_bx]
    refine ok_prog hc (by omega) fun p c1 hc1 hp => ?_
    extract_lets -underBinder q1
    have hq : ∀ (p : Prog) (c : Cu), progB p 5 1000 → cuOk c → Ok (q1 c.o (c.bs.map encB) c.i c.h p.cells (p.codes.map (encCode true))) (fun r => ∃ (c : Cu) (p : Prog) (m : Machine), r = (.tup [.one (encCu c), .agg (encProg true p), .agg (encMa true m)], [.one .unk]) ∧ cuOk c ∧ progB p 5 1000 ∧ maB m) := by
      intro p c hp hc
      obtain ⟨m, c', e, hc', hm⟩ := dMachine c p hc hp
      exact ok_eq (r := (.tup [.one (encCu c'), .agg (encProg true p), .agg (encMa true m)], [.one .unk])) (by simp [q1, e]) ⟨c', p, m, rfl, hc', hp, hm⟩
    clear_value q1
    refine ok_once hc1 fun b c2 hc2 => ?_
    cases b with
    | true => exact ok_bend hc2 hp fun p' c3 hc3 hp' => hq p' c3 hp' hc3
    | false => exact hq p c2 ⟨by have := hp.1; omega, hp.2⟩ hc2
  obtain ⟨r, h1, c, p, m, rfl, h2⟩ := key
  exact ⟨c, p, m, h1, h2⟩
/-! sDrawMachineOk: loop.example/g00712/spec.DrawMachineOk -/
noncomputable def QsDrawMachineOk : Fx := ⟨Go.Proofs.Try.f112, [.ro], false, mkEnv tys_d3 [(164, Ssl04Draw)] [(164, [.cur 1])], fun id => bif Nat.beq id 2 then .sq [0] (.alt 1 (.sq [2, 3] .stop) (.sq [2, 1, 3] .stop)) else .stop, []⟩
noncomputable def FsDrawMachineOk : List S → Option Res := veil QsDrawMachineOk.run
noncomputable def SsDrawMachineOk : Spec := ⟨[.ro], false, FsDrawMachineOk⟩
theorem msDrawMachineOk (x1 : Option Bool) (x2 : List (List C)) : FsDrawMachineOk [.one (.sl false x1 1 x2)] = cOT [.cur 1] [(false, [.other]), (true, [.int .i64, .sl 1]), (true, [.sl 1, .sl 3])] (Fsl04Draw [.one (.sl false x1 1 x2)]) fun c1 n1 o1 l1 o2 l2 o3 l3 => cuK 1 c1 fun o4 l4 n2 n3 => (let q1 : Option Res := fr false 1 [.agg [.int n1, .sl true none 1 l1], .agg [.sl true none 1 l2, .sl true none 3 l3]]; dup (q1)) := Fx.eq (by kernel_rfl)
theorem oksDrawMachineOk : CalleeOk Go.Proofs.Try.prog 112 SsDrawMachineOk := Fx.ok (F := QsDrawMachineOk) follows (envTy_mk tys_d3_eq) (envSpec_of (specsOk_cons oksl04Draw specsOk_nil)) Go.Proofs.Try.func112 (by kernel_rfl) (by kernel_rfl) (by rw [show subs QsDrawMachineOk.code = [] by kernel_rfl]; trivial) (by kernel_rfl) (by kernel_rfl) rfl
/-! sDrawMoves: loop.example/g00712/spec.DrawMoves -/
noncomputable def QsDrawMoves : Fx := ⟨Go.Proofs.Try.f58, [.ro], false, mkEnv tys_d3 [(112, SsDrawMachineOk)] [], fun _ => .stop, []⟩
noncomputable def FsDrawMoves : List S → Option Res := veil QsDrawMoves.run
noncomputable def SsDrawMoves : Spec := ⟨[.ro], false, FsDrawMoves⟩
theorem msDrawMoves (x1 : Option Bool) (x2 : List (List C)) : FsDrawMoves [.one (.sl false x1 1 x2)] = cT [(true, [.int .i64, .sl 1]), (true, [.sl 1, .sl 3])] (FsDrawMachineOk [.one (.sl false x1 1 x2)]) fun n1 o1 l1 o2 l2 o3 l3 => fr false 1 [.agg [.int n1, .sl true none 1 l1], .agg [.sl true none 1 l2, .sl true none 3 l3]] := Fx.eq (by kernel_rfl)
theorem oksDrawMoves : CalleeOk Go.Proofs.Try.prog 58 SsDrawMoves := Fx.ok (F := QsDrawMoves) follows (envTy_mk tys_d3_eq) (envSpec_of (specsOk_cons oksDrawMachineOk specsOk_nil)) Go.Proofs.Try.func58 (by kernel_rfl) (by kernel_rfl) (by rw [show subs QsDrawMoves.code = [] by kernel_rfl]; trivial) (by kernel_rfl) (by kernel_rfl) rfl
theorem dMoves (o : Option Bool) (bs : List Int) (h : bs.length ≤ 1099511627776) : ∃ (p : Prog) (m : Machine), FsDrawMoves [.one (.sl false o 1 (bs.map encB))] = some (.tup [.agg (encProg true p), .agg (encMa true m)], [.one .unk]) ∧ progB p 5 1000 ∧ maB m := by
  obtain ⟨c, p, m, e, hc, hp, hm⟩ := dDraw o bs h
  exact ⟨p, m, by simp [msDrawMoves, msDrawMachineOk, e], hp, hm⟩
end Go.Proofs.Gh.Gm
set_option linter.unusedVariables false
set_option linter.unusedSimpArgs false
set_option maxRecDepth 100000
set_option maxHeartbeats 2000000
namespace Go.Proofs.Gh.Gm
def tys_t8 : List (Nat × TI) := []
theorem tys_t8_eq : tys_t8.map (fun x => tiOf Go.Proofs.Try.prog x.1 x.2.cks) = tys_t8.map fun x => some x.2 := by kernel_rfl
theorem typed_bytes {ds : List C} (h : Typed Go.Proofs.Try.prog 9 38 ds) : ∃ (nl : Option Bool) (l : List Int), ds = [C.sl false nl 1 (l.map encB)] ∧ True := by
  rw [Typed, Go.Proofs.Try.underlying38] at h
  obtain ⟨es, rfl, hlen, hr⟩ := h
  obtain ⟨l, rfl, _⟩ := rows_map (f := encB) (G := fun _ => True) (es := es) (fun row hrow => by
    have := hr row hrow
    simp only [Typed, Go.Proofs.Try.underlying5] at this
    obtain ⟨n, rfl, _⟩ := this
    exact ⟨n, rfl, trivial⟩)
  refine ⟨none, l, ?_, trivial⟩
  rw [show Go.Proofs.Try.prog.cellsOf 5 = 1 by kernel_rfl]
end Go.Proofs.Gh.Gm
set_option linter.unusedVariables false
set_option linter.unusedSimpArgs false
set_option maxRecDepth 100000
set_option maxHeartbeats 2000000
namespace Go.Proofs.Gh.Gm
def tys_mv : List (Nat × TI) := [(3, ⟨false, 8, [.int .i64], [.int 0], .scalar, false, none⟩),
  (4, ⟨false, 1, [.bool], [.bool false], .scalar, false, none⟩),
  (38, ⟨false, 24, [.sl 1], [.sl true (some true) 1 []], .slice 5, false, none⟩),
  (66, ⟨true, 32, [.int .i64, .sl 1], [.int 0, .sl true (some true) 1 []], .struct [(0, 1, false), (1, 1, false)], false, none⟩),
  (72, ⟨false, 24, [.sl 3], [.sl true (some true) 3 []], .slice 84, false, none⟩),
  (74, ⟨true, 48, [.sl 1, .sl 3], [.sl true (some true) 1 [], .sl true (some true) 3 []], .struct [(0, 1, true), (1, 1, false)], false, none⟩),
  (75, ⟨false, 0, [], [], .tuple [74, 4], false, none⟩),
  (78, ⟨true, 16, [.int .i64, .bool], [.int 0, .bool false], .struct [(0, 1, false), (1, 1, false)], true, none⟩),
  (84, ⟨true, 56, [.int .i64, .sl 1, .sl 2], [.int 0, .sl true (some true) 1 [], .sl true (some true) 2 []], .struct [(0, 1, false), (1, 1, false), (2, 1, false)], false, none⟩),
  (89, ⟨false, 0, [], [], .tuple [66, 74], false, none⟩),
  (92, ⟨false, 24, [.sl 2], [.sl true (some true) 2 []], .slice 78, false, none⟩),
  (183, ⟨true, 2, [.bool, .bool], [.bool false, .bool false], .array 2 4, false, none⟩)]
theorem tys_mv_eq : tys_mv.map (fun x => tiOf Go.Proofs.Try.prog x.1 x.2.cks) = tys_mv.map fun x => some x.2 := by kernel_rfl
/-! imoves: loop.example/g00712/impl.moves -/
@[reducible] def himoves_6 : Sh := ⟨[.one (.o (.pl 0 0 [])), .one (.o (.pl 1 0 [])), .one (.o (.al 5 0 [])), .one (.o (.i .i64)), .one (.o (.i .i64)), .one (.o (.i .i64)), .agg [.o .b, .o .b], .one (.o (.i .i64))], [(false, [.o (.i .i64), .o (.sl false 1)]), (false, [.o (.sl false 1), .o (.sl false 3)]), (true, [.o .u]), (true, [.o .u]), (true, [.o .u]), (true, [.o (.sl true 2)])]⟩
@[reducible] def ximoves_6 : List (Ex × Sh) := [(.exit 2, ⟨[.one (.o (.pl 0 0 [])), .one (.o (.pl 1 0 [])), .one (.o (.al 5 0 [])), .one (.o (.i .i64)), .one (.o (.i .i64))], [(false, [.o (.i .i64), .o (.sl false 1)]), (false, [.o (.sl false 1), .o (.sl false 3)]), (true, [.o .u]), (true, [.o .u]), (true, [.o .u]), (true, [.o (.sl true 2)])]⟩)]
noncomputable def Rimoves_6 : KC ximoves_6 (himoves_6.K → himoves_6.K) := fun k0 nx v1 v2 v3 v4 v5 v6 v7 v8 v9 v10 v11 v12 v13 v14 v15 => bif decide (v6 < 2) then if v6 = 1 then cV false [.bool] (FicanMove [.agg [.int v7, .sl false none 1 v9], .agg [.sl false none 1 v11, .sl false none 3 v13], .agg [.int v1, .bool v5]]) fun b1 => bif b1 then if (v15.length + 1) * 16 ≤ LIM then nx v1 v2 v3 v4 v5 (W (v6 + 1)) v7 v8 v9 v10 v11 v12 v13 (apNl v14 [[]]) (v15 ++ [[.int v1, .bool v5]]) else none else nx v1 v2 v3 v4 v5 (W (v6 + 1)) v7 v8 v9 v10 v11 v12 v13 v14 v15 else if v6 = 0 then cV false [.bool] (FicanMove [.agg [.int v7, .sl false none 1 v9], .agg [.sl false none 1 v11, .sl false none 3 v13], .agg [.int v1, .bool v4]]) fun b2 => bif b2 then if (v15.length + 1) * 16 ≤ LIM then nx v1 v2 v3 v4 v5 (W (v6 + 1)) v7 v8 v9 v10 v11 v12 v13 (apNl v14 [[]]) (v15 ++ [[.int v1, .bool v4]]) else none else nx v1 v2 v3 v4 v5 (W (v6 + 1)) v7 v8 v9 v10 v11 v12 v13 v14 v15 else none else k0 v2 v3 v7 v8 v9 v10 v11 v12 v13 v14 v15
noncomputable def Limoves_6 : Lp := ⟨6, [2, 3, 5, 6, 13, 14, 17, 18], [2, 3, 5, 13, 14], 5, 35, himoves_6, ximoves_6, Rimoves_6⟩
@[reducible] def himoves_3 : Sh := ⟨[.one (.o (.pl 0 0 [])), .one (.o (.pl 1 0 [])), .one (.o (.al 4 0 [])), .one (.o (.i .i64)), .one (.o (.i .i64))], [(false, [.o (.i .i64), .o (.sl false 1)]), (false, [.o (.sl false 1), .o (.sl false 3)]), (true, [.o .u]), (true, [.o .u]), (true, [.o (.sl true 2)])]⟩
@[reducible] def ximoves_3 : List (Ex × Sh) := [(.exit 0, ⟨[.one (.o (.al 4 0 []))], [(false, [.o (.i .i64), .o (.sl false 1)]), (false, [.o (.sl false 1), .o (.sl false 3)]), (true, [.o .u]), (true, [.o .u]), (true, [.o (.sl true 2)])]⟩)]
noncomputable def Rimoves_3 : KC ximoves_3 (himoves_3.K → himoves_3.K) := fun k0 nx v1 v2 v3 v4 v5 v6 v7 v8 v9 v10 v11 => bif decide (v2 < v1) then iterC (Rimoves_6 (fun y1 y2 y3 y4 y5 y6 y7 y8 y9 y10 y11 => nx y1 (W (y2 + 1)) y3 y4 y5 y6 y7 y8 y9 y10 y11)) FUEL v2 v1 v2 false true 0 v3 v4 v5 v6 v7 v8 v9 v10 v11 else k0 v3 v4 v5 v6 v7 v8 v9 v10 v11
noncomputable def Limoves_3 : Lp := ⟨3, [2, 3, 5, 13, 14], [5], 4, 35, himoves_3, ximoves_3, Rimoves_3⟩
noncomputable def Qimoves : Fx := ⟨Go.Proofs.Try.f116, [.ro, .ro], false, mkEnv tys_mv [(106, SicanMove)] [], fun _ => .stop, [Limoves_6, Limoves_3]⟩
noncomputable def Fimoves : List S → Option Res := veil Qimoves.run
noncomputable def Simoves : Spec := ⟨[.ro, .ro], false, Fimoves⟩
theorem mimoves (x1 : Int) (x2 : List (List C)) (x3 : List (List C)) (x4 : List (List C)) : Fimoves [.agg [.int x1, .sl false none 1 x2], .agg [.sl false none 1 x3, .sl false none 3 x4]] = iterC (Rimoves_3 (fun y1 y2 y3 y4 y5 y6 y7 y8 y9 => fr false 2 [.one (.sl true y8 2 y9)])) FUEL (x4.length : Int) 0 x1 none x2 none x3 none x4 (some false) [] := Fx.eq (by kernel_rfl)
theorem stimoves_6 : Limoves_6.Step Qimoves.E Qimoves.dr Qimoves.lp ((findLoop 6 Qimoves.code).getD .skip) := fun k nx v => by kernel_rfl
theorem stimoves_3 : Limoves_3.Step Qimoves.E Qimoves.dr Qimoves.lp ((findLoop 3 Qimoves.code).getD .skip) := fun k nx v => by kernel_rfl
theorem okimoves : CalleeOk Go.Proofs.Try.prog 116 Simoves := Fx.ok (F := Qimoves) follows (envTy_mk tys_mv_eq) (envSpec_of (specsOk_cons okicanMove specsOk_nil)) Go.Proofs.Try.func116 (by kernel_rfl) (by kernel_rfl) (by
  rw [show subs Qimoves.code = [(findLoop 3 Qimoves.code).getD .skip, (findLoop 6 Qimoves.code).getD .skip] by kernel_rfl]
  exact ⟨stepAt_some (by kernel_rfl) stimoves_3, stepAt_some (by kernel_rfl) stimoves_6, trivial⟩) (by kernel_rfl) (by kernel_rfl) rfl
theorem in_moves (p : Prog) (m : Machine) (hm : isMa p m = true) (hl : m.ths.length ≤ 1048576) (t : Nat) (n : Int) (a : List Move) (ha : a.length ≤ 4000000) (K) :
    iterC (Rimoves_6 K) FUEL (t : Int) n (t : Int) false true 0 p.cells none (p.codes.map (encCode false)) none (m.cells.map encInt) none (m.ths.map (encTh false)) (some false) (a.map encMove)
      = K n (t : Int) p.cells none (p.codes.map (encCode false)) none (m.cells.map encInt) none (m.ths.map (encTh false)) (some false) ((a ++ mvAt p m t).map encMove) := by
  refine (iter_fold (h := himoves_6) [false, true] (fun i (a : List Move) f => f (t : Int) n (t : Int) false true (i : Int) p.cells none (p.codes.map (encCode false)) none (m.cells.map encInt) none (m.ths.map (encTh false)) (some false) (a.map encMove))
    (fun a b => a ++ (bif canMv p m t b then [⟨t, b⟩] else [])) (fun a => K n (t : Int) p.cells none (p.codes.map (encCode false)) none (m.cells.map encInt) none (m.ths.map (encTh false)) (some false) (a.map encMove)) (fun i b => b.length ≤ a.length + i) (by simp) ?_ ?_ a (by omega)).trans ?_
  · intro nx a _; simp [Rimoves_6]
  · intro nx i b hi hb hW
    have hL : (b.length + 1) * 16 ≤ LIM := by simp at hi; unfold LIM; omega
    have c1 := FicanMove_at p m t false ⟨hm, hl⟩
    have c2 := FicanMove_at p m t true ⟨hm, hl⟩
    simp only [encMa, encProg] at c1 c2
    have hi' : i = 0 ∨ i = 1 := by simp at hi; omega
    rcases hi' with rfl | rfl
    · simp at hW
      cases h1 : canMv p m t false <;> simp [Rimoves_6, c1, h1, hL, apNl, hW] <;> omega
    · simp at hW
      cases h1 : canMv p m t true <;> simp [Rimoves_6, c2, h1, hL, apNl, hW] <;> omega
  · simp [mvAt]
theorem Fimoves_at (p : Prog) (m : Machine) (h : isMa p m = true ∧ m.ths.length ≤ 1048576) : Fimoves [S.agg (encProg false p), S.agg (encMa false m)] = some (S.one (C.sl true (some false) 2 ((movesM p m).map encMove)), [S.one C.unk, S.one C.unk]) := by
  obtain ⟨hm, hl⟩ := h
  rw [mimoves, List.length_map]
  refine (iter_fold (h := himoves_3) (List.range m.ths.length) (fun i (a : List Move) f => f (m.ths.length : Int) (i : Int) p.cells none (p.codes.map (encCode false)) none (m.cells.map encInt) none (m.ths.map (encTh false)) (some false) (a.map encMove)) (fun a t => a ++ mvAt p m t) (fun a => fr false 2 [.one (.sl true (some false) 2 (a.map encMove))]) (fun i a => a.length ≤ 2 * i) (by simp; omega) ?_ ?_ [] (by simp)).trans ?_
  · intro nx a ha; simp [Rimoves_3]
  · intro nx i a hi ha hW
    simp only [List.length_range] at hi
    have h2 := mvAt_len p m i
    refine ⟨by simp only [List.getElem_range, List.length_append]; omega, ?_⟩
    have hlt : (i : Int) < (m.ths.length : Int) := by omega
    simp only [Rimoves_3, hlt, decide_true, cond_true, in_moves p m hm hl i (m.ths.length : Int) a (by omega), hW, List.getElem_range]
    rfl
  · show fr false 2 [.one (.sl true (some false) 2 ((movesM p m).map encMove))] = _
    simp
/-! iMoves: loop.example/g00712/impl.Moves -/
noncomputable def QiMoves : Fx := ⟨Go.Proofs.Try.f60, [.ro, .ro], false, mkEnv tys_mv [(105, SiMachineOk), (116, Simoves)] [], fun _ => .stop, []⟩
noncomputable def FiMoves : List S → Option Res := veil QiMoves.run
noncomputable def SiMoves : Spec := ⟨[.ro, .ro], false, FiMoves⟩
theorem miMoves (x1 : Int) (x2 : List (List C)) (x3 : List (List C)) (x4 : List (List C)) : FiMoves [.agg [.int x1, .sl false none 1 x2], .agg [.sl false none 1 x3, .sl false none 3 x4]] = cV false [.bool] (FiMachineOk [.agg [.int x1, .sl false none 1 x2], .agg [.sl false none 1 x3, .sl false none 3 x4]]) fun b1 => bif !b1 then fr false 2 [.one (.sl true (some true) 2 [])] else cV false [.sl 2] (Fimoves [.agg [.int x1, .sl false none 1 x2], .agg [.sl false none 1 x3, .sl false none 3 x4]]) fun o1 l1 => fr false 2 [.one (.sl true o1 2 l1)] := Fx.eq (by kernel_rfl)
theorem okiMoves : CalleeOk Go.Proofs.Try.prog 60 SiMoves := Fx.ok (F := QiMoves) follows (envTy_mk tys_mv_eq) (envSpec_of (specsOk_cons okiMachineOk (specsOk_cons okimoves specsOk_nil))) Go.Proofs.Try.func60 (by kernel_rfl) (by kernel_rfl) (by rw [show subs QiMoves.code = [] by kernel_rfl]; trivial) (by kernel_rfl) (by kernel_rfl) rfl
theorem FiMoves_at (p : Prog) (m : Machine) (h : progOk p = true ∧ isMa p m = true) : FiMoves [S.agg (encProg false p), S.agg (encMa false m)] = some (S.one (C.sl true (some false) 2 ((movesM p m).map encMove)), [S.one C.unk, S.one C.unk]) := by
  obtain ⟨hp, hm⟩ := h
  obtain ⟨b1, b2, b3⟩ := maB_of hp hm
  have hb := isMa_bT hp hm
  have hpc : p.codes.length ≤ 3 ∧ ∀ c ∈ p.codes, c.length ≤ 16 := by
    simp only [progOk, inB, Bool.and_eq_true, decide_eq_true_eq, List.all_eq_true] at hp
    refine ⟨by omega, fun c hc => ?_⟩
    have := hp.2 c hc
    simp only [codeOk, Bool.and_eq_true, decide_eq_true_eq] at this
    exact this.1
  have e1 := FiMachineOk_at p m ⟨⟨by omega, fun c hc => by have := hpc.2 c hc; omega⟩, show m.cells.length ≤ 4611686018427387903 by omega, by omega, fun t ht => by have := b3 t ht; omega⟩
  have e2 := Fimoves_at p m ⟨hm, by omega⟩
  simp only [encMa, encProg] at e1 e2
  simp [miMoves, e1, e2, hp, hm]
theorem execI_ths (m : Machine) (t : Nat) (th : Thread) (i : Instr) : ∃ X, (execI m t th i).ths = m.ths.set t X := by
  simp only [execI]
  cases i.op == 0 <;> cases i.op == 1 <;> cases i.op == 8 <;> cases i.op == 2 <;> cases i.op == 3 <;> cases i.op == 5 <;> cases (m.cells[i.n.toNat]?.getD 0 == th.vals[i.r.toNat]?.getD 0) <;> cases i.op == 6 <;> cases i.op == 7 <;> exact ⟨_, rfl⟩
/-- No program counter but the mover's changes. -/
theorem mv_pc {p : Prog} {m : Machine} {t u : Nat} {dr : Bool} (hp : progOk p = true) (hm : isMa p m = true) (hc : canMv p m t dr = true) (hu : u < m.ths.length) (h : u ≠ t ∨ dr = true) : ∃ hu' : u < (mvM p m t dr).ths.length, (mvM p m t dr).ths[u].pc = m.ths[u].pc := by
  cases dr with
  | false =>
    obtain ⟨_, hx⟩ := exOk_of hp hm hc
    simp only [Int.toNat_natCast] at hx
    obtain ⟨ht, hcc, n, hn, hpc, hth, hin, hmo, hml, hcl, h3, he⟩ := exOk_get hx
    obtain ⟨X, hX⟩ := execI_ths m t m.ths[t] p.codes[t][n]
    have hne : ¬ t = u := by simp at h; omega
    have hM : (mvM p m t false).ths = m.ths.set t X := by simp only [mvM, cond_false, Int.toNat_natCast, he, hX]
    refine ⟨by rw [hM]; simpa using hu, ?_⟩
    simp only [hM, List.getElem_set, hne, if_false]
  | true =>
    obtain ⟨_, th, s, b, h1, h2, h3, h4⟩ := drOk_of hm hc
    simp only [Int.toNat_natCast] at h1
    obtain ⟨ht, hth⟩ := List.getElem?_eq_some_iff.1 h1
    have hM : (mvM p m t true).ths = m.ths.set t { th with buf := b } := by simp [mvM, drainM, h1, h2]
    refine ⟨by rw [hM]; simpa using hu, ?_⟩
    simp only [hM, List.getElem_set]
    split
    · rename_i e; subst e; rw [← hth]
    · rfl
theorem movesTo_pre (p : Prog) (m : Machine) {i n : Nat} (h : i ≤ n) : ∃ r, movesTo p m n = movesTo p m i ++ r := by
  induction h with
  | refl => exact ⟨[], by simp⟩
  | step _ ih => obtain ⟨r, hr⟩ := ih; exact ⟨r ++ mvAt p m _, by rw [movesTo_succ, hr, List.append_assoc]⟩
def cntM (p : Prog) (m : Machine) (i k : Nat) : Nat := (movesTo p m i).length + (if 1 ≤ k then (bif canMv p m i false then 1 else 0) else 0) + (if 2 ≤ k then (bif canMv p m i true then 1 else 0) else 0)
theorem cntM_two (p : Prog) (m : Machine) (i : Nat) : cntM p m i 2 = (movesTo p m (i + 1)).length := by
  rw [movesTo_succ]
  simp only [cntM, mvAt]
  cases canMv p m i false <;> cases canMv p m i true <;> simp
theorem getMove {p : Prog} {m : Machine} {i k : Nat} {dr : Bool} (h : i < m.ths.length) (hk : (k = 0 ∧ dr = false) ∨ (k = 1 ∧ dr = true)) (hc : canMv p m i dr = true) : (movesM p m)[cntM p m i k]? = some ⟨i, dr⟩ := by
  obtain ⟨r, hr⟩ := movesTo_pre p m (show i + 1 ≤ m.ths.length by omega)
  rw [movesM, hr, movesTo_succ]
  rcases hk with ⟨rfl, rfl⟩ | ⟨rfl, rfl⟩
  · simp [cntM, mvAt, hc]
  · cases hf : canMv p m i false <;> simp [cntM, mvAt, hc, hf, List.getElem?_append]
/-! wbig: loop.example/g00712/laws.big -/
noncomputable def Qwbig : Fx := ⟨Go.Proofs.Try.f27, [.ro], false, mkEnv tys_mv [] [], fun _ => .stop, []⟩
noncomputable def Fwbig : List S → Option Res := veil Qwbig.run
noncomputable def Swbig : Spec := ⟨[.ro], false, Fwbig⟩
theorem mwbig (x1 : Option Bool) (x2 : List (List C)) : Fwbig [.one (.sl false x1 1 x2)] = fr false 1 [.one (.bool (decide ((x2.length : Int) > 1048576)))] := Fx.eq (by kernel_rfl)
theorem okwbig : CalleeOk Go.Proofs.Try.prog 27 Swbig := Fx.ok (F := Qwbig) follows (envTy_mk tys_mv_eq) (envSpec_of (specsOk_nil)) Go.Proofs.Try.func27 (by kernel_rfl) (by kernel_rfl) (by rw [show subs Qwbig.code = [] by kernel_rfl]; trivial) (by kernel_rfl) (by kernel_rfl) rfl
theorem Fwbig_at (o : Option Bool) (bs : List Int) : Fwbig [S.one (C.sl false o 1 (bs.map encB))] = some (S.one (C.bool (decide ((bs.length : Int) > 1048576))), [S.one C.unk]) := by
  simp [mwbig]
/-! wFnMoves: loop.example/g00712/laws.FnMoves -/
@[reducible] def hwFnMoves_23 : Sh := ⟨[.one (.o (.pl 3 0 [])), .one (.o (.pl 4 0 [])), .one (.o (.al 12 0 [])), .one (.o (.i .i64)), .one (.o (.i .i64)), .one (.o (.i .i64)), .one (.o (.pl 11 0 [])), .one (.o (.i .i64))], [(true, [.o .u]), (true, [.o .u]), (true, [.o .u]), (false, [.o (.i .i64), .o (.sl true 1)]), (false, [.o (.sl true 1), .o (.sl true 3)]), (true, [.o .u]), (true, [.o .u]), (true, [.o .u]), (false, [.o (.i .i64), .o .b]), (true, [.o .u]), (true, [.o .u]), (false, [.o (.sl true 1), .o (.sl true 3)]), (true, [.o (.sl true 2)])]⟩
@[reducible] def xwFnMoves_23 : List (Ex × Sh) := [(.ret, ⟨[.one (.o .b), .one (.o (.pl 3 0 [])), .one (.o (.pl 4 0 [])), .one (.o (.al 12 0 [])), .one (.o (.i .i64)), .one (.o (.i .i64)), .one (.o (.i .i64))], [(true, [.o .u]), (true, [.o .u]), (true, [.o .u]), (false, [.o (.i .i64), .o (.sl true 1)]), (false, [.o (.sl true 1), .o (.sl true 3)]), (true, [.o .u]), (true, [.o .u]), (true, [.o .u]), (false, [.o (.i .i64), .o .b]), (true, [.o .u]), (true, [.o .u]), (false, [.o (.sl true 1), .o (.sl true 3)]), (true, [.o (.sl true 2)])]⟩), (.exit 4, ⟨[.one (.o .u), .one (.o (.pl 3 0 [])), .one (.o (.pl 4 0 [])), .one (.o (.al 12 0 [])), .one (.o (.i .i64)), .one (.o (.i .i64)), .one (.o (.i .i64))], [(true, [.o .u]), (true, [.o .u]), (true, [.o .u]), (false, [.o (.i .i64), .o (.sl true 1)]), (false, [.o (.sl true 1), .o (.sl true 3)]), (true, [.o .u]), (true, [.o .u]), (true, [.o .u]), (false, [.o (.i .i64), .o .b]), (true, [.o .u]), (true, [.o .u]), (false, [.o (.sl true 1), .o (.sl true 3)]), (true, [.o (.sl true 2)])]⟩)]
noncomputable def RwFnMoves_23 : KC xwFnMoves_23 (hwFnMoves_23.K → hwFnMoves_23.K) := fun k0 k1 nx v1 v2 v3 v4 v5 v6 v7 v8 v9 v10 v11 v12 v13 v14 v15 v16 v17 v18 v19 => bif decide (v4 < (v11.length : Int)) then (let q1 : Option Res := nx v1 v2 v3 (W (v4 + 1)) v5 v6 v7 v8 v9 v10 v11 v12 v13 v14 v15 v16 v17 v18 v19; bif v4 != v2 then ix v4 v17 ((v17[Int.toNat v4]?).bind fun w2 => tOwn [.int .i64] w2 fun n3 => ix v4 v11 ((v11[Int.toNat v4]?).bind fun w3 => tOwn [.int .i64] w3 fun n4 => bif n3 != n4 then k0 false v1 v2 v3 v5 v6 v7 v8 v9 v10 v11 v12 v13 v14 v15 v16 v17 v18 v19 else q1)) else bif v3 == 1 then ix v4 v17 ((v17[Int.toNat v4]?).bind fun w4 => tOwn [.int .i64] w4 fun n5 => ix v4 v11 ((v11[Int.toNat v4]?).bind fun w5 => tOwn [.int .i64] w5 fun n6 => bif n5 != n6 then k0 false v1 v2 v3 v5 v6 v7 v8 v9 v10 v11 v12 v13 v14 v15 v16 v17 v18 v19 else q1)) else q1) else k1 v1 v2 v3 v5 v6 v7 v8 v9 v10 v11 v12 v13 v14 v15 v16 v17 v18 v19
noncomputable def LwFnMoves_23 : Lp := ⟨23, [3, 4, 5, 6, 7, 8, 10, 12], [2, 3, 4, 5, 6, 7, 8], 12, 118, hwFnMoves_23, xwFnMoves_23, RwFnMoves_23⟩
@[reducible] def hwFnMoves_12 : Sh := ⟨[.one (.o (.pl 3 0 [])), .one (.o (.pl 4 0 [])), .one (.o (.al 7 0 [])), .one (.o (.i .i64)), .one (.o (.i .i64)), .one (.o (.i .i64))], [(true, [.o .u]), (true, [.o .u]), (true, [.o .u]), (false, [.o (.i .i64), .o (.sl true 1)]), (false, [.o (.sl true 1), .o (.sl true 3)]), (true, [.o .u]), (true, [.o .u]), (true, [.o (.sl true 2)])]⟩
@[reducible] def xwFnMoves_12 : List (Ex × Sh) := [(.ret, ⟨[.one (.o .b), .one (.o (.pl 3 0 [])), .one (.o (.pl 4 0 [])), .one (.o (.al 7 0 [])), .one (.o (.i .i64)), .one (.o (.i .i64))], [(true, [.o .u]), (true, [.o .u]), (true, [.o .u]), (false, [.o (.i .i64), .o (.sl true 1)]), (false, [.o (.sl true 1), .o (.sl true 3)]), (true, [.o .u]), (true, [.o .u]), (true, [.o (.sl true 2)]), (false, [.o (.i .i64), .o .b]), (true, [.o .u]), (true, [.o .u]), (false, [.o (.sl true 1), .o (.sl true 3)])]⟩), (.ret, ⟨[.one (.o .b), .one (.o (.pl 3 0 [])), .one (.o (.pl 4 0 [])), .one (.o (.al 12 0 [])), .one (.o (.i .i64)), .one (.o (.i .i64))], [(true, [.o .u]), (true, [.o .u]), (true, [.o .u]), (false, [.o (.i .i64), .o (.sl true 1)]), (false, [.o (.sl true 1), .o (.sl true 3)]), (true, [.o .u]), (true, [.o .u]), (true, [.o .u]), (false, [.o (.i .i64), .o .b]), (true, [.o .u]), (true, [.o .u]), (false, [.o (.sl true 1), .o (.sl true 3)]), (true, [.o (.sl true 2)])]⟩), (.exit 2, ⟨[.one (.o .u), .one (.o (.pl 3 0 [])), .one (.o (.pl 4 0 [])), .one (.o (.al 7 0 [])), .one (.o (.i .i64)), .one (.o (.i .i64))], [(true, [.o .u]), (true, [.o .u]), (true, [.o .u]), (false, [.o (.i .i64), .o (.sl true 1)]), (false, [.o (.sl true 1), .o (.sl true 3)]), (true, [.o .u]), (true, [.o .u]), (true, [.o (.sl true 2)])]⟩)]
noncomputable def RwFnMoves_12 : KC xwFnMoves_12 (hwFnMoves_12.K → hwFnMoves_12.K) := fun k0 k1 k2 nx v1 v2 v3 v4 v5 v6 v7 v8 v9 v10 v11 v12 => bif decide (v3 < 2) then cT [(true, [.sl 1, .sl 3]), (false, [.bool])] (FiDoMove [.agg [.int v4, .sl false none 1 (freezeRows v6)], .agg [.sl false none 1 (freezeRows v8), .sl false none 3 (freezeRows v10)], .agg [.int v2, .bool (v3 == 1)]]) fun o5 l5 o6 l6 b3 => cV false [.bool] (FiCanMove [.agg [.int v4, .sl false none 1 (freezeRows v6)], .agg [.sl false none 1 (freezeRows v8), .sl false none 3 (freezeRows v10)], .agg [.int v2, .bool (v3 == 1)]]) fun b4 => bif !(b3 == b4) then k0 false v1 v2 v4 v5 v6 v7 v8 v9 v10 v11 v12 v2 (v3 == 1) none l5 none l6 else cV false [.bool] (FsCanMove [.agg [.int v4, .sl false none 1 (freezeRows v6)], .agg [.sl false none 1 (freezeRows v8), .sl false none 3 (freezeRows v10)], .agg [.int v2, .bool (v3 == 1)]]) fun b5 => bif !(b3 == b5) then k0 false v1 v2 v4 v5 v6 v7 v8 v9 v10 v11 v12 v2 (v3 == 1) none l5 none l6 else bif !b3 then nx v1 v2 (W (v3 + 1)) v4 v5 v6 v7 v8 v9 v10 v11 v12 else bif decide (v1 ≥ (v12.length : Int)) then k0 false v1 v2 v4 v5 v6 v7 v8 v9 v10 v11 v12 v2 (v3 == 1) none l5 none l6 else ix v1 v12 ((v12[Int.toNat v1]?).bind fun w1 => tOwn [.int .i64, .bool] w1 fun n2 b6 => bif !(n2 == v2 && (b6 == (v3 == 1) && true)) then k0 false v1 v2 v4 v5 v6 v7 v8 v9 v10 v11 v12 v2 (v3 == 1) none l5 none l6 else cV false [.bool] (FsMachineOk [.agg [.int v4, .sl false none 1 (freezeRows v6)], .agg [.sl false none 1 (freezeRows l5), .sl false none 3 (freezeRows l6)]]) fun b7 => bif !b7 then k0 false v1 v2 v4 v5 v6 v7 v8 v9 v10 v11 v12 v2 (v3 == 1) none l5 none l6 else iterC (RwFnMoves_23 (fun y1 y2 y3 y4 y5 y6 y7 y8 y9 y10 y11 y12 y13 y14 y15 y16 y17 y18 y19 => k1 y1 y2 y3 y5 y6 y7 y8 y9 y10 y11 y12 y13 y14 y15 y16 y17 y18 y19) (fun y20 y21 y22 y23 y24 y25 y26 y27 y28 y29 y30 y31 y32 y33 y34 y35 y36 y37 => nx y20 y21 (W (y22 + 1)) y23 y24 y25 y26 y27 y28 y29 y36 y37)) FUEL (W (v1 + 1)) v2 v3 0 v4 v5 v6 v7 v8 v9 v10 v2 (v3 == 1) none l5 none l6 v11 v12) else k2 v1 v2 v4 v5 v6 v7 v8 v9 v10 v11 v12
noncomputable def LwFnMoves_12 : Lp := ⟨12, [3, 4, 5, 6, 7, 8], [2, 3, 4, 5, 6, 7], 7, 118, hwFnMoves_12, xwFnMoves_12, RwFnMoves_12⟩
@[reducible] def hwFnMoves_9 : Sh := ⟨[.one (.o (.pl 3 0 [])), .one (.o (.pl 4 0 [])), .one (.o (.al 6 0 [])), .one (.o (.i .i64)), .one (.o (.i .i64))], [(true, [.o .u]), (true, [.o .u]), (true, [.o .u]), (false, [.o (.i .i64), .o (.sl true 1)]), (false, [.o (.sl true 1), .o (.sl true 3)]), (true, [.o .u]), (true, [.o (.sl true 2)])]⟩
@[reducible] def xwFnMoves_9 : List (Ex × Sh) := [(.ret, ⟨[.one (.o .b), .one (.o (.al 7 0 [])), .one (.o (.i .i64))], [(true, [.o .u]), (true, [.o .u]), (true, [.o .u]), (false, [.o (.i .i64), .o (.sl true 1)]), (false, [.o (.sl true 1), .o (.sl true 3)]), (true, [.o .u]), (true, [.o .u]), (true, [.o (.sl true 2)]), (false, [.o (.i .i64), .o .b]), (true, [.o .u]), (true, [.o .u]), (false, [.o (.sl true 1), .o (.sl true 3)])]⟩), (.ret, ⟨[.one (.o .b), .one (.o (.al 12 0 [])), .one (.o (.i .i64))], [(true, [.o .u]), (true, [.o .u]), (true, [.o .u]), (false, [.o (.i .i64), .o (.sl true 1)]), (false, [.o (.sl true 1), .o (.sl true 3)]), (true, [.o .u]), (true, [.o .u]), (true, [.o .u]), (false, [.o (.i .i64), .o .b]), (true, [.o .u]), (true, [.o .u]), (false, [.o (.sl true 1), .o (.sl true 3)]), (true, [.o (.sl true 2)])]⟩), (.exit 0, ⟨[.one (.o .u), .one (.o (.al 6 0 [])), .one (.o (.i .i64))], [(true, [.o .u]), (true, [.o .u]), (true, [.o .u]), (false, [.o (.i .i64), .o (.sl true 1)]), (false, [.o (.sl true 1), .o (.sl true 3)]), (true, [.o .u]), (true, [.o (.sl true 2)])]⟩)]
noncomputable def RwFnMoves_9 : KC xwFnMoves_9 (hwFnMoves_9.K → hwFnMoves_9.K) := fun k0 k1 k2 nx v1 v2 v3 v4 v5 v6 v7 v8 v9 v10 v11 => bif decide (v2 < (v9.length : Int)) then iterC (RwFnMoves_12 (fun y1 y2 y3 y4 y5 y6 y7 y8 y9 y10 y11 y12 y13 y14 y15 y16 y17 y18 => k0 y1 y2 y4 y5 y6 y7 y8 y9 y10 y11 y12 y13 y14 y15 y16 y17 y18) (fun y19 y20 y21 y22 y23 y24 y25 y26 y27 y28 y29 y30 y31 y32 y33 y34 y35 y36 => k1 y19 y20 y22 y23 y24 y25 y26 y27 y28 y29 y30 y31 y32 y33 y34 y35 y36) (fun y37 y38 y39 y40 y41 y42 y43 y44 y45 y46 y47 => nx y37 (W (y38 + 1)) y39 y40 y41 y42 y43 y44 y45 y46 y47)) FUEL v1 v2 0 v3 v4 v5 v6 v7 v8 v9 v10 v11 else k2 v1 v3 v4 v5 v6 v7 v8 v9 v10 v11
noncomputable def LwFnMoves_9 : Lp := ⟨9, [3, 4, 5, 6, 7], [2, 5, 6], 6, 118, hwFnMoves_9, xwFnMoves_9, RwFnMoves_9⟩
noncomputable def QwFnMoves : Fx := ⟨Go.Proofs.Try.f12, [.ro], false, mkEnv tys_mv [(27, Swbig), (53, SiCanMove), (54, SiDoMove), (58, SsDrawMoves), (59, SsMachineOk), (60, SiMoves), (61, SsCanMove)] [], fun id => bif Nat.beq id 19 then .sq [0, 1, 2, 3, 4, 5, 6, 7, 8, 9, 10, 11, 12, 13, 14, 15, 16, 17] .stop else bif Nat.beq id 25 then .sq [0, 1, 2, 3, 4, 5, 6, 7, 8, 9, 10, 11, 12, 13, 14, 15, 16, 17, 18, 19, 20, 21] .stop else .stop, [LwFnMoves_23, LwFnMoves_12, LwFnMoves_9]⟩
noncomputable def FwFnMoves : List S → Option Res := veil QwFnMoves.run
noncomputable def SwFnMoves : Spec := ⟨[.ro], false, FwFnMoves⟩
theorem mwFnMoves (x1 : Option Bool) (x2 : List (List C)) : FwFnMoves [.one (.sl false x1 1 x2)] = cV false [.bool] (Fwbig [.one (.sl false x1 1 x2)]) fun b1 => bif b1 then fr false 1 [.one (.bool true)] else cT [(true, [.int .i64, .sl 1]), (true, [.sl 1, .sl 3])] (FsDrawMoves [.one (.sl false x1 1 x2)]) fun n1 o1 l1 o2 l2 o3 l3 => cV false [.bool] (FsMachineOk [.agg [.int n1, .sl false none 1 (freezeRows l1)], .agg [.sl false none 1 (freezeRows l2), .sl false none 3 (freezeRows l3)]]) fun b2 => bif !b2 then fr false 1 [.one (.bool true)] else cV false [.sl 2] (FiMoves [.agg [.int n1, .sl false none 1 (freezeRows l1)], .agg [.sl false none 1 (freezeRows l2), .sl false none 3 (freezeRows l3)]]) fun o4 l4 => iterC (RwFnMoves_9 (fun y1 y2 y3 y4 y5 y6 y7 y8 y9 y10 y11 y12 y13 y14 y15 y16 y17 => fr false 1 [.one (.bool y1)]) (fun y18 y19 y20 y21 y22 y23 y24 y25 y26 y27 y28 y29 y30 y31 y32 y33 y34 => fr false 1 [.one (.bool y18)]) (fun y35 y36 y37 y38 y39 y40 y41 y42 y43 y44 => fr false 1 [.one (.bool (y35 == (y44.length : Int)))])) FUEL 0 0 n1 none l1 none l2 none l3 o4 l4 := Fx.eq (by kernel_rfl)
theorem stwFnMoves_23 : LwFnMoves_23.Step QwFnMoves.E QwFnMoves.dr QwFnMoves.lp ((findLoop 23 QwFnMoves.code).getD .skip) := fun k nx v => by kernel_rfl
theorem stwFnMoves_12 : LwFnMoves_12.Step QwFnMoves.E QwFnMoves.dr QwFnMoves.lp ((findLoop 12 QwFnMoves.code).getD .skip) := fun k nx v => by kernel_rfl
theorem stwFnMoves_9 : LwFnMoves_9.Step QwFnMoves.E QwFnMoves.dr QwFnMoves.lp ((findLoop 9 QwFnMoves.code).getD .skip) := fun k nx v => by kernel_rfl
theorem okwFnMoves : CalleeOk Go.Proofs.Try.prog 12 SwFnMoves := Fx.ok (F := QwFnMoves) follows (envTy_mk tys_mv_eq) (envSpec_of (specsOk_cons okwbig (specsOk_cons okiCanMove (specsOk_cons okiDoMove (specsOk_cons oksDrawMoves (specsOk_cons oksMachineOk (specsOk_cons okiMoves (specsOk_cons oksCanMove specsOk_nil)))))))) Go.Proofs.Try.func12 (by kernel_rfl) (by kernel_rfl) (by
  rw [show subs QwFnMoves.code = [(findLoop 9 QwFnMoves.code).getD .skip, (findLoop 12 QwFnMoves.code).getD .skip, (findLoop 23 QwFnMoves.code).getD .skip] by kernel_rfl]
  exact ⟨stepAt_some (by kernel_rfl) stwFnMoves_9, stepAt_some (by kernel_rfl) stwFnMoves_12, stepAt_some (by kernel_rfl) stwFnMoves_23, trivial⟩) (by kernel_rfl) (by kernel_rfl) rfl
theorem FwFnMoves_at (o : Option Bool) (bs : List Int) : FwFnMoves [S.one (C.sl false o 1 (bs.map encB))] = some (S.one (C.bool true), [S.one C.unk]) := by
  have key : Ok (FwFnMoves [S.one (C.sl false o 1 (bs.map encB))]) (fun r => r = (S.one (C.bool true), [S.one C.unk])) := by
    rw [mwFnMoves, Fwbig_at]
    by_cases hb : (bs.length : Int) > 1048576
    · exact ok_eq (r := (S.one (C.bool true), [S.one C.unk])) (by simp [hb]) rfl
    obtain ⟨p, m, e, hpb, hmb⟩ := dMoves o bs (by omega)
    have hbl := progB_bndL hpb (by omega) (by omega)
    have e2 := FsMachineOk_at p m ⟨hbl, show m.cells.length ≤ 4611686018427387903 by have := hmb.1; omega, by have := hmb.2.1; omega, fun t ht => by have := hmb.2.2 t ht; omega⟩
    simp only [encMa, encProg] at e e2
    cases hok : (progOk p && isMa p m) with
    | false => rw [hok] at e2; exact ok_eq (r := (S.one (C.bool true), [S.one C.unk])) (by simp [hb, e, e2]) rfl
    | true =>
      rw [hok] at e2
      obtain ⟨hp, hm⟩ := Bool.and_eq_true_iff.1 hok
      have e3 := FiMoves_at p m ⟨hp, hm⟩
      simp only [encMa, encProg] at e3
      obtain ⟨b1, b2, b3⟩ := maB_of hp hm
      simp -zeta -zetaHave only [hb, decide_false, cV_some, tOne, cells?_one, cells?_agg, Option.bind_some, List.length_cons, List.length_nil, if_true, tRes, List.head?_cons, List.tail_cons, asBool_bool, asInt_int, asOwn_sl, id, cond_false, cond_true, Bool.not_true, e, e2, e3, cT_some, tTup, tParts, S.parts, encCode_freeze, encTh_freeze, encInt_freeze]
      have hlen := movesTo_len p m m.ths.length
      have hbT : bT m.ths := ⟨by omega, fun t ht => by have := b3 t ht; omega⟩
      have hbn : bndT m.ths := ⟨by omega, fun t ht => by have := b3 t ht; omega⟩
      refine iter_ok (h := hwFnMoves_9) m.ths.length (fun i (_ : Unit) f => f ((movesTo p m i).length : Int) (i : Int) p.cells none (p.codes.map (encCode true)) none (m.cells.map encInt) none (m.ths.map (encTh true)) (some false) ((movesM p m).map encMove)) (fun _ _ => True) _ (by omega) ?_ ?_ () trivial
      · intro nx a _
        exact ok_eq (r := (S.one (C.bool true), [S.one C.unk])) (by simp [RwFnMoves_9, movesM]) rfl
      · intro nx i _ hi _ hW hnx
        have hlt : (i : Int) < (m.ths.length : Int) := by omega
        simp -zeta -zetaHave only [RwFnMoves_9, List.length_map, hlt, decide_true, cond_true]
        rw [show ((movesTo p m i).length : Int) = (cntM p m i 0 : Int) by simp [cntM]]
        refine iter_ok (h := hwFnMoves_12) 2 (fun k (_ : Unit) f => f (cntM p m i k : Int) (i : Int) (k : Int) p.cells none (p.codes.map (encCode true)) none (m.cells.map encInt) none (m.ths.map (encTh true)) (some false) ((movesM p m).map encMove)) (fun _ _ => True) _ (by omega) ?_ ?_ () trivial
        · intro nx2 a _
          exact ok_of (by simp [RwFnMoves_12, hW, cntM_two]) (hnx () trivial)
        · intro nx2 k _ hk _ hW2 hnx2
          obtain ⟨dr, hdr, hkd⟩ : ∃ dr : Bool, ((k : Int) == 1) = dr ∧ ((k = 0 ∧ dr = false) ∨ (k = 1 ∧ dr = true)) := by
            have hk' : k = 0 ∨ k = 1 := by omega
            rcases hk' with rfl | rfl
            · exact ⟨false, by decide, .inl ⟨rfl, rfl⟩⟩
            · exact ⟨true, by decide, .inr ⟨rfl, rfl⟩⟩
          have hk2 : (k : Int) < 2 := by omega
          have d1 := FiDoMove_at p m i dr ⟨hbl, by omega, hbT⟩
          have d2 := FiCanMove_at p m i dr ⟨hbl, show m.cells.length ≤ 4611686018427387903 by omega, hbn, by omega⟩
          have d3 := FsCanMove_at p m i dr ⟨hbl, show m.cells.length ≤ 4611686018427387903 by omega, hbn⟩
          have hcnt : cntM p m i (k + 1) = cntM p m i k + (bif canMv p m i dr then 1 else 0) := by
            rcases hkd with ⟨rfl, rfl⟩ | ⟨rfl, rfl⟩ <;> simp [cntM]
          simp only [canP, hp, hm, Bool.true_and, encProg, encMa] at d1 d2 d3
          cases hc : canMv p m i dr with
          | false =>
            rw [hc] at d1 d2 d3 hcnt
            have h2 := hnx2 () trivial
            simp only [hcnt, cond_false, Nat.add_zero] at h2
            exact ok_of (by simp [RwFnMoves_12, hk2, hdr, d1, d2, d3, hW2]) h2
          | true =>
            rw [hc] at d1 d2 d3 hcnt
            simp only [cond_true] at d1 hcnt
            have hM := isMa_mv hp hm hc
            have gm := getMove hi hkd hc
            obtain ⟨hcl, hget⟩ := List.getElem?_eq_some_iff.1 gm
            obtain ⟨c1, c2, c3⟩ := maB_of hp hM
            have e4 := FsMachineOk_at p (mvM p m i dr) ⟨hbl, show (mvM p m i dr).cells.length ≤ 4611686018427387903 by omega, by omega, fun t ht => by have := c3 t ht; omega⟩
            simp only [hp, hM, Bool.true_and, encProg, encMa] at e4
            have hpcs := fun u hu h => mv_pc (u := u) hp hm hc hu h
            generalize mvM p m i dr = M at *
            have hw : W ((cntM p m i k : Int) + 1) = (cntM p m i (k + 1) : Int) := by
              have : (movesM p m).length ≤ 2 * m.ths.length := hlen
              rw [hcnt, W_eq (by omega) (by omega)]; omega
            have hge : ¬ (cntM p m i k : Int) ≥ ((movesM p m).length : Int) := by omega
            simp -zeta -zetaHave only [RwFnMoves_12, hk2, decide_true, cond_true, cond_false, hdr, d1, d2, d3, e4, cT_some, cV_some, tTup, tParts, S.parts, tOne, cells?_one, cells?_agg, Option.bind_some, List.length_cons, List.length_nil, if_true, tRes, tOwn, List.head?_cons, List.tail_cons, asBool_bool, asInt_int, asOwn_sl, id, beq_self_eq_true, Bool.not_true, encCode_freeze, encTh_freeze, encInt_freeze, List.length_map, hge, decide_false, ix_map hcl, List.getElem?_map, Int.toNat_natCast, gm, Option.map_some, Bool.and_true, Bool.and_self, hw]
            rw [show ((some dr).bind : (Bool → Option Res) → Option Res) = fun f => f dr from rfl]
            simp -zeta -zetaHave only [beq_self_eq_true, Bool.and_self, Bool.not_true, cond_false]
            refine iter_ok (h := hwFnMoves_23) m.ths.length (fun u (_ : Unit) f => f (cntM p m i (k + 1) : Int) (i : Int) (k : Int) (u : Int) p.cells none (p.codes.map (encCode true)) none (m.cells.map encInt) none (m.ths.map (encTh true)) (i : Int) dr none (M.cells.map encInt) none (M.ths.map (encTh true)) (some false) ((movesM p m).map encMove)) (fun _ _ => True) _ (by omega) ?_ ?_ () trivial
            · intro nx3 a _
              exact ok_of (by simp [RwFnMoves_23, hW2]) (hnx2 () trivial)
            · intro nx3 u _ hu _ hW3 hnx3
              by_cases hui : u = i
              · subst hui
                cases dr with
                | false =>
                  have hk0 : k = 0 := by simpa using hkd
                  subst hk0
                  exact ok_of (by simp [RwFnMoves_23, hu, hW3]) (hnx3 () trivial)
                | true =>
                  have hk1 : k = 1 := by simpa using hkd
                  subst hk1
                  obtain ⟨hu', hp'⟩ := hpcs u hu (.inr rfl)
                  exact ok_of (by simp [RwFnMoves_23, hu, hu', hp', hW3]) (hnx3 () trivial)
              · have hne : ((u : Int) != (i : Int)) = true := by simp; omega
                obtain ⟨hu', hp'⟩ := hpcs u hu (.inl hui)
                exact ok_of (by simp [RwFnMoves_23, hne, hu, hu', hp', hW3]) (hnx3 () trivial)
  obtain ⟨r, h1, rfl⟩ := key
  exact h1
end Go.Proofs.Gh.Gm
