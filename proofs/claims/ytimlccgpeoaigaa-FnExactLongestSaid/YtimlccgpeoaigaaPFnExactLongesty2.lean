-- Written by a program of this session (wip/tools/mkprint2.py over the kit's print); texts of functions that the print does not take are the session's own (ext.py).
import Derived.Test.YtimlccgpeoaigaaPFnExactLongesty0
import Derived.Test.YtimlccgpeoaigaaPFnExactLongesty1
namespace Go.Proofs.Ytimlccgpeoaigaa.PFnExactLongest
open Go.RowKit Go.Proofs.YtimlccgpeoaigaaW.PrintWords Go.Proofs.YtimlccgpeoaigaaW.PrintLast Go.Proofs.YtimlccgpeoaigaaW.PrintMore
attribute [local go_sem] max2_int min2_int max_two min_two max_three min_three max_four min_four   -- for this text's walks alone
set_option linter.unusedVariables false
set_option linter.unusedSimpArgs false

/-! ### spec_UnpackOp: function 10 (by hand) -/
def opB (a t x : Int) : Bool := decide (0 ≤ a ∧ a ≤ 6 ∧ 0 ≤ t ∧ t ≤ 4 ∧ (a = 0 → t = 0) ∧ (if 1 ≤ a ∧ a ≤ 3 then 1 ≤ x ∧ x ≤ 60 else x = 0))
/-- The operation whose encoding begins at a, and the index behind it; zeros and -1 where there is none. -/
def unpack (l : List Int) (a : Int) : Int × Int × Int × Int :=
  if a < 0 then (0, 0, 0, -1) else if (l.length : Int) ≤ a then (0, 0, 0, -1) else
  if 1 ≤ wrap64 (Int.tdiv (wrap64 (rd l a)) 5) ∧ wrap64 (Int.tdiv (wrap64 (rd l a)) 5) ≤ 3 then
    (if a + 1 < (l.length : Int) then
      (if opB (wrap64 (Int.tdiv (wrap64 (rd l a)) 5)) (Int.tmod (wrap64 (rd l a)) 5) (wrap64 (rd l (a + 1))) = true then (wrap64 (Int.tdiv (wrap64 (rd l a)) 5), Int.tmod (wrap64 (rd l a)) 5, wrap64 (rd l (a + 1)), a + 1 + 1) else (0, 0, 0, -1))
    else (0, 0, 0, -1))
  else if opB (wrap64 (Int.tdiv (wrap64 (rd l a)) 5)) (Int.tmod (wrap64 (rd l a)) 5) 0 = true then (wrap64 (Int.tdiv (wrap64 (rd l a)) 5), Int.tmod (wrap64 (rd l a)) 5, 0, a + 1) else (0, 0, 0, -1)

theorem in_tells (a b c : Int) : spec_l01In.f a b c = some (decide (b ≤ a ∧ a ≤ c)) := by
  unfold spec_l01In.f
  by_cases h : b ≤ a <;> simp [h]
theorem specHasX_tells (a : Int) : spec_l17HasX.f a = some (decide (1 ≤ a ∧ a ≤ 3)) := by unfold spec_l17HasX.f; rw [in_tells]; rfl
theorem specWorker_tells (a : Int) : spec_l10Worker.f a = some (decide (0 ≤ a ∧ a ≤ 4)) := by unfold spec_l10Worker.f; rw [in_tells]; rfl
theorem specOpOk_tells (k : Nat) (hk : 0 < k) (a t x : Int) : spec_OpOk.f k a t x = some (opB a t x) := by
  obtain ⟨k, rfl⟩ : ∃ m, k = m + 1 := ⟨k - 1, by omega⟩
  unfold spec_OpOk.f
  simp only [in_tells, specHasX_tells, specWorker_tells, Option.bind_some, spec_OpOk.j0, opB]
  simp only [decide_eq_true_eq, reduceIte, Bool.false_eq_true, bne_iff_ne, ne_eq]
  (repeat' split) <;> first | (simp only [Option.some.injEq, decide_eq_decide]; omega) | (symm; simp only [Option.some.injEq, decide_eq_false_iff_not]; omega) | (simp_all; done) | (simp_all; omega) | (rw [Option.some.injEq, eq_comm, Bool.eq_iff_iff]; simp; omega)

set_option maxHeartbeats 8000000 in
set_option maxRecDepth 100000 in
theorem spec_UnpackOp.u_low (A0 : Option Addr) (c0 : Nat) (l0 : List Int) (a1 : Int) (w : World) (hr0 : Kd.C (Kd.int .u8) w A0 l0.length l0) (hc0 : l0.length ≤ c0) (h : a1 < 0) :
    Calls Try.prog 10 #[.slice A0 l0.length c0, .int .i64 a1] w fun e w' => e = .returned (.tuple #[.agg #[.int .i64 0, .int .i64 0, .int .i64 0], .int .i64 (-1)]) ∧ Below w.heap.size w w' := by
  have hu24 := Try.underlying24
  have hl := Kd.C_max hr0
  have FX := Aside0.mk (YtimlccgpeoaigaaX.Fx.start w)
  have hb : decide (a1 < 0) = true := decide_eq_true h
  go_enter Try.func10, Try.ntmps10
  go_wp2_with (first | ((with_reducible refine gate_dst (N := 4) rfl ?_); refine box_event ?hg (N := 4) ?hd (cs := #[.int .i64 0, .int .i64 0, .int .i64 0]) (t := 24) ?hr ?_; (case hd => rfl); (case hg => rfl); (case hr => first | (go_simp; done) | (go_simp; rfl)); intro g4 e3 w2 k4 b5; have FX1 := Aside0.mk (FX.out.alloc e3 k4 b5); clear e3 k4 b5; clear FX; have hcg4_0 := FX1.out.cell 0 0 rfl rfl; have hfg4_0 := FX1.out.free 0 0 rfl; have hcg4_1 := FX1.out.cell 0 1 rfl rfl; have hfg4_1 := FX1.out.free 0 1 rfl; have hcg4_2 := FX1.out.cell 0 2 rfl rfl; have hfg4_2 := FX1.out.free 0 2 rfl) | ((with_reducible refine gate_store (t := 24) (p := 4) rfl ?_); refine store_event (t := 24) (p := 4) (v := ?vo_w7) (w1 := (((w2.setCell ⟨g4, 0, none⟩ (.int .i64 0)).setCell ⟨g4, 1, none⟩ (.int .i64 0)).setCell ⟨g4, 2, none⟩ (.int .i64 0))) ?hg ?ho ?hn ?hr ?_; (case ho => rfl); (case hg => rfl); (case hn => rfl); (case hr => first | (go_simp; done) | (go_simp; rfl)); intro w7 e8; have FX6 : Aside0 (YtimlccgpeoaigaaX.Fx w w7 [YtimlccgpeoaigaaX.blk g4 24 #[.int .i64 0, .int .i64 0, .int .i64 0]]) := ⟨by rw [e8]; exact (((FX1.out.store 0 rfl 0 (.int .i64 0) #[.int .i64 0, .int .i64 0, .int .i64 0] rfl).store 0 rfl 1 (.int .i64 0) #[.int .i64 0, .int .i64 0, .int .i64 0] rfl).store 0 rfl 2 (.int .i64 0) #[.int .i64 0, .int .i64 0, .int .i64 0] rfl)⟩; clear e8; clear FX1; clear hcg4_0 hfg4_0 hcg4_1 hfg4_1 hcg4_2 hfg4_2; have hcg4_0 := FX6.out.cell 0 0 rfl rfl; have hfg4_0 := FX6.out.free 0 0 rfl; have hcg4_1 := FX6.out.cell 0 1 rfl rfl; have hfg4_1 := FX6.out.free 0 1 rfl; have hcg4_2 := FX6.out.cell 0 2 rfl rfl; have hfg4_2 := FX6.out.free 0 2 rfl))
  exact bodyPost_ret (results_ct rfl _ _ g4 24 #[.int .i64 0, .int .i64 0, .int .i64 0] (0, 0) _ rfl (FX6.out.blkOf 0 rfl) Try.underlying24 rfl (by kernel_rfl)) rfl ⟨rfl, FX6.out.below⟩
set_option maxHeartbeats 8000000 in
set_option maxRecDepth 100000 in
theorem spec_UnpackOp.u_high (A0 : Option Addr) (c0 : Nat) (l0 : List Int) (a1 : Int) (w : World) (hr0 : Kd.C (Kd.int .u8) w A0 l0.length l0) (hc0 : l0.length ≤ c0) (h0 : 0 ≤ a1) (h : (l0.length : Int) ≤ a1) :
    Calls Try.prog 10 #[.slice A0 l0.length c0, .int .i64 a1] w fun e w' => e = .returned (.tuple #[.agg #[.int .i64 0, .int .i64 0, .int .i64 0], .int .i64 (-1)]) ∧ Below w.heap.size w w' := by
  have hu24 := Try.underlying24
  have hl := Kd.C_max hr0
  have FX := Aside0.mk (YtimlccgpeoaigaaX.Fx.start w)
  have hb : decide (a1 < 0) = false := decide_eq_false (by omega)
  have hb2 : decide ((l0.length : Int) ≤ a1) = true := decide_eq_true h
  go_enter Try.func10, Try.ntmps10
  go_wp2_with (first | ((with_reducible refine gate_dst (N := 4) rfl ?_); refine box_event ?hg (N := 4) ?hd (cs := #[.int .i64 0, .int .i64 0, .int .i64 0]) (t := 24) ?hr ?_; (case hd => rfl); (case hg => rfl); (case hr => first | (go_simp; done) | (go_simp; rfl)); intro g4 e3 w2 k4 b5; have FX1 := Aside0.mk (FX.out.alloc e3 k4 b5); clear e3 k4 b5; clear FX; have hcg4_0 := FX1.out.cell 0 0 rfl rfl; have hfg4_0 := FX1.out.free 0 0 rfl; have hcg4_1 := FX1.out.cell 0 1 rfl rfl; have hfg4_1 := FX1.out.free 0 1 rfl; have hcg4_2 := FX1.out.cell 0 2 rfl rfl; have hfg4_2 := FX1.out.free 0 2 rfl) | ((with_reducible refine gate_store (t := 24) (p := 4) rfl ?_); refine store_event (t := 24) (p := 4) (v := ?vo_w7) (w1 := (((w2.setCell ⟨g4, 0, none⟩ (.int .i64 0)).setCell ⟨g4, 1, none⟩ (.int .i64 0)).setCell ⟨g4, 2, none⟩ (.int .i64 0))) ?hg ?ho ?hn ?hr ?_; (case ho => rfl); (case hg => rfl); (case hn => rfl); (case hr => first | (go_simp; done) | (go_simp; rfl)); intro w7 e8; have FX6 : Aside0 (YtimlccgpeoaigaaX.Fx w w7 [YtimlccgpeoaigaaX.blk g4 24 #[.int .i64 0, .int .i64 0, .int .i64 0]]) := ⟨by rw [e8]; exact (((FX1.out.store 0 rfl 0 (.int .i64 0) #[.int .i64 0, .int .i64 0, .int .i64 0] rfl).store 0 rfl 1 (.int .i64 0) #[.int .i64 0, .int .i64 0, .int .i64 0] rfl).store 0 rfl 2 (.int .i64 0) #[.int .i64 0, .int .i64 0, .int .i64 0] rfl)⟩; clear e8; clear FX1; clear hcg4_0 hfg4_0 hcg4_1 hfg4_1 hcg4_2 hfg4_2; have hcg4_0 := FX6.out.cell 0 0 rfl rfl; have hfg4_0 := FX6.out.free 0 0 rfl; have hcg4_1 := FX6.out.cell 0 1 rfl rfl; have hfg4_1 := FX6.out.free 0 1 rfl; have hcg4_2 := FX6.out.cell 0 2 rfl rfl; have hfg4_2 := FX6.out.free 0 2 rfl))
  exact bodyPost_ret (results_ct rfl _ _ g4 24 #[.int .i64 0, .int .i64 0, .int .i64 0] (0, 0) _ rfl (FX6.out.blkOf 0 rfl) Try.underlying24 rfl (by kernel_rfl)) rfl ⟨rfl, FX6.out.below⟩
set_option maxHeartbeats 8000000 in
set_option maxRecDepth 100000 in
theorem spec_UnpackOp.u_short (A0 : Option Addr) (c0 : Nat) (l0 : List Int) (a1 : Int) (w : World) (hr0 : Kd.C (Kd.int .u8) w A0 l0.length l0) (hc0 : l0.length ≤ c0) (h0 : 0 ≤ a1) (h1 : a1 < (l0.length : Int)) (hkd : decide (1 ≤ wrap64 (Int.tdiv (wrap64 (rd l0 a1)) 5) ∧ wrap64 (Int.tdiv (wrap64 (rd l0 a1)) 5) ≤ 3) = true) (h2 : ¬ a1 + 1 < (l0.length : Int)) :
    Calls Try.prog 10 #[.slice A0 l0.length c0, .int .i64 a1] w fun e w' => e = .returned (.tuple #[.agg #[.int .i64 0, .int .i64 0, .int .i64 0], .int .i64 (-1)]) ∧ Below w.heap.size w w' := by
  have hu24 := Try.underlying24
  have hl := Kd.C_max hr0
  have FX := Aside0.mk (YtimlccgpeoaigaaX.Fx.start w)
  obtain ⟨ad, e0, hx⟩ := Kd.at_int hr0 a1 h0 h1
  subst e0
  have HX := Aside0.mk hx
  clear hx
  have q1 : decide (a1 < 0) = false := decide_eq_false (by omega)
  have q2 : decide ((l0.length : Int) ≤ a1) = false := decide_eq_false (by omega)
  have q3 : decide ((l0.length : Int) ≤ a1 + 1) = true := decide_eq_true (by omega)
  go_enter Try.func10, Try.ntmps10
  go_wp2_with ((with_reducible refine gate_dst (N := 4) rfl ?_); refine box_event ?hg (N := 4) ?hd (cs := #[.int .i64 0, .int .i64 0, .int .i64 0]) (t := 24) ?hr ?_; (case hd => rfl); (case hg => rfl); (case hr => first | (go_simp; done) | (go_simp; rfl)); intro g4 e3 w2 k4 b5; have FX1 := Aside0.mk (FX.out.alloc e3 k4 b5); clear e3 k4 b5; clear FX; have hcg4_0 := FX1.out.cell 0 0 rfl rfl; have hfg4_0 := FX1.out.free 0 0 rfl; have hcg4_1 := FX1.out.cell 0 1 rfl rfl; have hfg4_1 := FX1.out.free 0 1 rfl; have hcg4_2 := FX1.out.cell 0 2 rfl rfl; have hfg4_2 := FX1.out.free 0 2 rfl; have hx := FX1.out.old HX.out; have hx2 := fun o => pw_cell_below (below_alloc (Below.refl w2.heap.size w2) o) hx)
  go_region
  clear hx2
  clear hcg4_0 hfg4_0 hcg4_1 hfg4_1 hcg4_2 hfg4_2 hx
  refine YtimlccgpeoaigaaV.gen_then (p := fun W' => ∃ g6, YtimlccgpeoaigaaX.Fx w W' [YtimlccgpeoaigaaX.blk g6 24 #[.int .i64 (wrap64 (Int.tdiv (wrap64 (rd l0 a1)) 5)), .int .i64 (Int.tmod (wrap64 (rd l0 a1)) 5), .int .i64 0], YtimlccgpeoaigaaX.blk g4 24 #[.int .i64 0, .int .i64 0, .int .i64 0]] ∧ g6 = w2.heap.size) ⟨_, (FX1.out.alloc rfl (blk_new _ _) (below_alloc (Below.refl _ _) _)).drew, rfl⟩ ?_
  rintro w6 ⟨g6, fx6, e6⟩
  rw [← e6]
  have FXR := Aside0.mk fx6
  clear fx6 e6 FX1
  have hcg6_0 := FXR.out.cell 0 0 rfl rfl
  have hfg6_0 := FXR.out.free 0 0 rfl
  have hcg6_1 := FXR.out.cell 0 1 rfl rfl
  have hfg6_1 := FXR.out.free 0 1 rfl
  have hcg6_2 := FXR.out.cell 0 2 rfl rfl
  have hfg6_2 := FXR.out.free 0 2 rfl
  have hcg4_0 := FXR.out.cell 1 0 rfl rfl
  have hfg4_0 := FXR.out.free 1 0 rfl
  have hcg4_1 := FXR.out.cell 1 1 rfl rfl
  have hfg4_1 := FXR.out.free 1 1 rfl
  have hcg4_2 := FXR.out.cell 1 2 rfl rfl
  have hfg4_2 := FXR.out.free 1 2 rfl
  have hx := FXR.out.old HX.out
  go_wp2_with (first | (go_at_call 36; (with_reducible refine (spec_l17HasX.calls _ true _ (by rw [specHasX_tells]; exact congrArg some hkd)).mono ?_); rintro e w7 ⟨rfl, b8⟩; have FX6 := Aside0.mk (FXR.out.call b8.below); clear b8; clear FXR; clear hcg6_0 hfg6_0 hcg6_1 hfg6_1 hcg6_2 hfg6_2 hcg4_0 hfg4_0 hcg4_1 hfg4_1 hcg4_2 hfg4_2 hx; have hcg6_0 := FX6.out.cell 0 0 rfl rfl; have hfg6_0 := FX6.out.free 0 0 rfl; have hcg6_1 := FX6.out.cell 0 1 rfl rfl; have hfg6_1 := FX6.out.free 0 1 rfl; have hcg6_2 := FX6.out.cell 0 2 rfl rfl; have hfg6_2 := FX6.out.free 0 2 rfl; have hcg4_0 := FX6.out.cell 1 0 rfl rfl; have hfg4_0 := FX6.out.free 1 0 rfl; have hcg4_1 := FX6.out.cell 1 1 rfl rfl; have hfg4_1 := FX6.out.free 1 1 rfl; have hcg4_2 := FX6.out.cell 1 2 rfl rfl; have hfg4_2 := FX6.out.free 1 2 rfl; have hx := FX6.out.old HX.out) | ((with_reducible refine gate_store (t := 24) (p := 4) rfl ?_); refine store_event (t := 24) (p := 4) (v := ?vo_w10) (w1 := (((w7.setCell ⟨g4, 0, none⟩ (.int .i64 0)).setCell ⟨g4, 1, none⟩ (.int .i64 0)).setCell ⟨g4, 2, none⟩ (.int .i64 0))) ?hg ?ho ?hn ?hr ?_; (case ho => rfl); (case hg => rfl); (case hn => rfl); (case hr => first | (go_simp; done) | (go_simp; rfl)); intro w10 e11; have FX9 : Aside0 (YtimlccgpeoaigaaX.Fx w w10 [YtimlccgpeoaigaaX.blk g6 24 #[.int .i64 (wrap64 (Int.tdiv (wrap64 (rd l0 a1)) 5)), .int .i64 (Int.tmod (wrap64 (rd l0 a1)) 5), .int .i64 0], YtimlccgpeoaigaaX.blk g4 24 #[.int .i64 0, .int .i64 0, .int .i64 0]]) := ⟨by rw [e11]; exact (((FX6.out.store 1 rfl 0 (.int .i64 0) #[.int .i64 0, .int .i64 0, .int .i64 0] rfl).store 1 rfl 1 (.int .i64 0) #[.int .i64 0, .int .i64 0, .int .i64 0] rfl).store 1 rfl 2 (.int .i64 0) #[.int .i64 0, .int .i64 0, .int .i64 0] rfl)⟩; clear e11; clear FX6; clear hcg6_0 hfg6_0 hcg6_1 hfg6_1 hcg6_2 hfg6_2 hcg4_0 hfg4_0 hcg4_1 hfg4_1 hcg4_2 hfg4_2 hx; have hcg6_0 := FX9.out.cell 0 0 rfl rfl; have hfg6_0 := FX9.out.free 0 0 rfl; have hcg6_1 := FX9.out.cell 0 1 rfl rfl; have hfg6_1 := FX9.out.free 0 1 rfl; have hcg6_2 := FX9.out.cell 0 2 rfl rfl; have hfg6_2 := FX9.out.free 0 2 rfl; have hcg4_0 := FX9.out.cell 1 0 rfl rfl; have hfg4_0 := FX9.out.free 1 0 rfl; have hcg4_1 := FX9.out.cell 1 1 rfl rfl; have hfg4_1 := FX9.out.free 1 1 rfl; have hcg4_2 := FX9.out.cell 1 2 rfl rfl; have hfg4_2 := FX9.out.free 1 2 rfl; have hx := FX9.out.old HX.out))
  exact bodyPost_ret (results_ct rfl _ _ g4 24 #[.int .i64 0, .int .i64 0, .int .i64 0] (0, 0) _ rfl (FX9.out.blkOf 1 rfl) Try.underlying24 rfl (by kernel_rfl)) rfl ⟨rfl, FX9.out.below⟩
set_option maxHeartbeats 8000000 in
set_option maxRecDepth 100000 in
theorem spec_UnpackOp.u_two_true (A0 : Option Addr) (c0 : Nat) (l0 : List Int) (a1 : Int) (w : World) (hr0 : Kd.C (Kd.int .u8) w A0 l0.length l0) (hc0 : l0.length ≤ c0) (h0 : 0 ≤ a1) (h1 : a1 < (l0.length : Int)) (hkd : decide (1 ≤ wrap64 (Int.tdiv (wrap64 (rd l0 a1)) 5) ∧ wrap64 (Int.tdiv (wrap64 (rd l0 a1)) 5) ≤ 3) = true) (h2 : a1 + 1 < (l0.length : Int)) (hok : opB (wrap64 (Int.tdiv (wrap64 (rd l0 a1)) 5)) (Int.tmod (wrap64 (rd l0 a1)) 5) (wrap64 (rd l0 (a1 + 1))) = true) :
    Calls Try.prog 10 #[.slice A0 l0.length c0, .int .i64 a1] w fun e w' => e = .returned (.tuple #[.agg #[.int .i64 (wrap64 (Int.tdiv (wrap64 (rd l0 a1)) 5)), .int .i64 (Int.tmod (wrap64 (rd l0 a1)) 5), .int .i64 (wrap64 (rd l0 (a1 + 1)))], .int .i64 (a1 + 1 + 1)]) ∧ Below w.heap.size w w' := by
  have hu24 := Try.underlying24
  have hl := Kd.C_max hr0
  have FX := Aside0.mk (YtimlccgpeoaigaaX.Fx.start w)
  obtain ⟨ad, e0, hx⟩ := Kd.at_int hr0 a1 h0 h1
  obtain ⟨ad', e1, hy⟩ := Kd.at_int hr0 (a1 + 1) (by omega) h2
  obtain rfl : ad = ad' := by rw [e0] at e1; injection e1
  subst e0
  have HX := Aside0.mk hx
  clear hx
  have HY := Aside0.mk hy
  clear hy
  have q1 : decide (a1 < 0) = false := decide_eq_false (by omega)
  have q2 : decide ((l0.length : Int) ≤ a1) = false := decide_eq_false (by omega)
  have q3 : decide ((l0.length : Int) ≤ a1 + 1) = false := decide_eq_false (by omega)
  go_enter Try.func10, Try.ntmps10
  go_wp2_with ((with_reducible refine gate_dst (N := 4) rfl ?_); refine box_event ?hg (N := 4) ?hd (cs := #[.int .i64 0, .int .i64 0, .int .i64 0]) (t := 24) ?hr ?_; (case hd => rfl); (case hg => rfl); (case hr => first | (go_simp; done) | (go_simp; rfl)); intro g4 e3 w2 k4 b5; have FX1 := Aside0.mk (FX.out.alloc e3 k4 b5); clear e3 k4 b5; clear FX; have hcg4_0 := FX1.out.cell 0 0 rfl rfl; have hfg4_0 := FX1.out.free 0 0 rfl; have hcg4_1 := FX1.out.cell 0 1 rfl rfl; have hfg4_1 := FX1.out.free 0 1 rfl; have hcg4_2 := FX1.out.cell 0 2 rfl rfl; have hfg4_2 := FX1.out.free 0 2 rfl; have hx := FX1.out.old HX.out; have hy := FX1.out.old HY.out; have hx2 := fun o => pw_cell_below (below_alloc (Below.refl w2.heap.size w2) o) hx)
  go_region
  clear hx2
  clear hcg4_0 hfg4_0 hcg4_1 hfg4_1 hcg4_2 hfg4_2 hx hy
  refine YtimlccgpeoaigaaV.gen_then (p := fun W' => ∃ g6, YtimlccgpeoaigaaX.Fx w W' [YtimlccgpeoaigaaX.blk g6 24 #[.int .i64 (wrap64 (Int.tdiv (wrap64 (rd l0 a1)) 5)), .int .i64 (Int.tmod (wrap64 (rd l0 a1)) 5), .int .i64 0], YtimlccgpeoaigaaX.blk g4 24 #[.int .i64 0, .int .i64 0, .int .i64 0]] ∧ g6 = w2.heap.size) ⟨_, (FX1.out.alloc rfl (blk_new _ _) (below_alloc (Below.refl _ _) _)).drew, rfl⟩ ?_
  rintro w6 ⟨g6, fx6, e6⟩
  rw [← e6]
  have FXR := Aside0.mk fx6
  clear fx6 e6 FX1
  have hcg6_0 := FXR.out.cell 0 0 rfl rfl
  have hfg6_0 := FXR.out.free 0 0 rfl
  have hcg6_1 := FXR.out.cell 0 1 rfl rfl
  have hfg6_1 := FXR.out.free 0 1 rfl
  have hcg6_2 := FXR.out.cell 0 2 rfl rfl
  have hfg6_2 := FXR.out.free 0 2 rfl
  have hcg4_0 := FXR.out.cell 1 0 rfl rfl
  have hfg4_0 := FXR.out.free 1 0 rfl
  have hcg4_1 := FXR.out.cell 1 1 rfl rfl
  have hfg4_1 := FXR.out.free 1 1 rfl
  have hcg4_2 := FXR.out.cell 1 2 rfl rfl
  have hfg4_2 := FXR.out.free 1 2 rfl
  have hx := FXR.out.old HX.out
  have hy := FXR.out.old HY.out
  go_wp2_with (first | (go_at_call 36; (with_reducible refine (spec_l17HasX.calls _ true _ (by rw [specHasX_tells]; exact congrArg some hkd)).mono ?_); rintro e w7 ⟨rfl, b8⟩; have FX6 := Aside0.mk (FXR.out.call b8.below); clear b8; clear FXR; clear hcg6_0 hfg6_0 hcg6_1 hfg6_1 hcg6_2 hfg6_2 hcg4_0 hfg4_0 hcg4_1 hfg4_1 hcg4_2 hfg4_2 hx hy; have hcg6_0 := FX6.out.cell 0 0 rfl rfl; have hfg6_0 := FX6.out.free 0 0 rfl; have hcg6_1 := FX6.out.cell 0 1 rfl rfl; have hfg6_1 := FX6.out.free 0 1 rfl; have hcg6_2 := FX6.out.cell 0 2 rfl rfl; have hfg6_2 := FX6.out.free 0 2 rfl; have hcg4_0 := FX6.out.cell 1 0 rfl rfl; have hfg4_0 := FX6.out.free 1 0 rfl; have hcg4_1 := FX6.out.cell 1 1 rfl rfl; have hfg4_1 := FX6.out.free 1 1 rfl; have hcg4_2 := FX6.out.cell 1 2 rfl rfl; have hfg4_2 := FX6.out.free 1 2 rfl; have hx := FX6.out.old HX.out; have hy := FX6.out.old HY.out) | ((with_reducible refine gate_store (t := 3) (p := 45) rfl ?_); refine store_event (t := 3) (p := 45) (v := ?vo_w10) (w1 := (w7.setCell ⟨g6, 2, none⟩ (.int .i64 (wrap64 (rd l0 (a1 + 1)))))) ?hg ?ho ?hn ?hr ?_; (case ho => rfl); (case hg => rfl); (case hn => rfl); (case hr => first | (go_simp; done) | (go_simp; rfl)); intro w10 e11; have FX9 : Aside0 (YtimlccgpeoaigaaX.Fx w w10 [YtimlccgpeoaigaaX.blk g6 24 #[.int .i64 (wrap64 (Int.tdiv (wrap64 (rd l0 a1)) 5)), .int .i64 (Int.tmod (wrap64 (rd l0 a1)) 5), .int .i64 (wrap64 (rd l0 (a1 + 1)))], YtimlccgpeoaigaaX.blk g4 24 #[.int .i64 0, .int .i64 0, .int .i64 0]]) := ⟨by rw [e11]; exact (FX6.out.store 0 rfl 2 (.int .i64 (wrap64 (rd l0 (a1 + 1)))) #[.int .i64 (wrap64 (Int.tdiv (wrap64 (rd l0 a1)) 5)), .int .i64 (Int.tmod (wrap64 (rd l0 a1)) 5), .int .i64 (wrap64 (rd l0 (a1 + 1)))] rfl)⟩; clear e11; clear FX6; clear hcg6_0 hfg6_0 hcg6_1 hfg6_1 hcg6_2 hfg6_2 hcg4_0 hfg4_0 hcg4_1 hfg4_1 hcg4_2 hfg4_2 hx hy; have hcg6_0 := FX9.out.cell 0 0 rfl rfl; have hfg6_0 := FX9.out.free 0 0 rfl; have hcg6_1 := FX9.out.cell 0 1 rfl rfl; have hfg6_1 := FX9.out.free 0 1 rfl; have hcg6_2 := FX9.out.cell 0 2 rfl rfl; have hfg6_2 := FX9.out.free 0 2 rfl; have hcg4_0 := FX9.out.cell 1 0 rfl rfl; have hfg4_0 := FX9.out.free 1 0 rfl; have hcg4_1 := FX9.out.cell 1 1 rfl rfl; have hfg4_1 := FX9.out.free 1 1 rfl; have hcg4_2 := FX9.out.cell 1 2 rfl rfl; have hfg4_2 := FX9.out.free 1 2 rfl; have hx := FX9.out.old HX.out; have hy := FX9.out.old HY.out) | (go_at_call 37; (with_reducible refine (spec_OpOk.calls 1 (wrap64 (Int.tdiv (wrap64 (rd l0 a1)) 5)) (Int.tmod (wrap64 (rd l0 a1)) 5) (wrap64 (rd l0 (a1 + 1))) true _ (by rw [specOpOk_tells 1 (by omega)]; exact congrArg some hok)).mono ?_); rintro e w13 ⟨rfl, b14⟩; have FX12 := Aside0.mk (FX9.out.call b14); clear b14; clear FX9; clear hcg6_0 hfg6_0 hcg6_1 hfg6_1 hcg6_2 hfg6_2 hcg4_0 hfg4_0 hcg4_1 hfg4_1 hcg4_2 hfg4_2 hx hy; have hcg6_0 := FX12.out.cell 0 0 rfl rfl; have hfg6_0 := FX12.out.free 0 0 rfl; have hcg6_1 := FX12.out.cell 0 1 rfl rfl; have hfg6_1 := FX12.out.free 0 1 rfl; have hcg6_2 := FX12.out.cell 0 2 rfl rfl; have hfg6_2 := FX12.out.free 0 2 rfl; have hcg4_0 := FX12.out.cell 1 0 rfl rfl; have hfg4_0 := FX12.out.free 1 0 rfl; have hcg4_1 := FX12.out.cell 1 1 rfl rfl; have hfg4_1 := FX12.out.free 1 1 rfl; have hcg4_2 := FX12.out.cell 1 2 rfl rfl; have hfg4_2 := FX12.out.free 1 2 rfl; have hx := FX12.out.old HX.out; have hy := FX12.out.old HY.out) | ((with_reducible refine gate_store (t := 24) (p := 4) rfl ?_); refine store_event (t := 24) (p := 4) (v := ?vo_w16) (w1 := (((w13.setCell ⟨g4, 0, none⟩ (.int .i64 (wrap64 (Int.tdiv (wrap64 (rd l0 a1)) 5)))).setCell ⟨g4, 1, none⟩ (.int .i64 (Int.tmod (wrap64 (rd l0 a1)) 5))).setCell ⟨g4, 2, none⟩ (.int .i64 (wrap64 (rd l0 (a1 + 1)))))) ?hg ?ho ?hn ?hr ?_; (case ho => rfl); (case hg => rfl); (case hn => rfl); (case hr => first | (go_simp; done) | (go_simp; rfl)); intro w16 e17; have FX15 : Aside0 (YtimlccgpeoaigaaX.Fx w w16 [YtimlccgpeoaigaaX.blk g6 24 #[.int .i64 (wrap64 (Int.tdiv (wrap64 (rd l0 a1)) 5)), .int .i64 (Int.tmod (wrap64 (rd l0 a1)) 5), .int .i64 (wrap64 (rd l0 (a1 + 1)))], YtimlccgpeoaigaaX.blk g4 24 #[.int .i64 (wrap64 (Int.tdiv (wrap64 (rd l0 a1)) 5)), .int .i64 (Int.tmod (wrap64 (rd l0 a1)) 5), .int .i64 (wrap64 (rd l0 (a1 + 1)))]]) := ⟨by rw [e17]; exact (((FX12.out.store 1 rfl 0 (.int .i64 (wrap64 (Int.tdiv (wrap64 (rd l0 a1)) 5))) #[.int .i64 (wrap64 (Int.tdiv (wrap64 (rd l0 a1)) 5)), .int .i64 0, .int .i64 0] rfl).store 1 rfl 1 (.int .i64 (Int.tmod (wrap64 (rd l0 a1)) 5)) #[.int .i64 (wrap64 (Int.tdiv (wrap64 (rd l0 a1)) 5)), .int .i64 (Int.tmod (wrap64 (rd l0 a1)) 5), .int .i64 0] rfl).store 1 rfl 2 (.int .i64 (wrap64 (rd l0 (a1 + 1)))) #[.int .i64 (wrap64 (Int.tdiv (wrap64 (rd l0 a1)) 5)), .int .i64 (Int.tmod (wrap64 (rd l0 a1)) 5), .int .i64 (wrap64 (rd l0 (a1 + 1)))] rfl)⟩; clear e17; clear FX12; clear hcg6_0 hfg6_0 hcg6_1 hfg6_1 hcg6_2 hfg6_2 hcg4_0 hfg4_0 hcg4_1 hfg4_1 hcg4_2 hfg4_2 hx hy; have hcg6_0 := FX15.out.cell 0 0 rfl rfl; have hfg6_0 := FX15.out.free 0 0 rfl; have hcg6_1 := FX15.out.cell 0 1 rfl rfl; have hfg6_1 := FX15.out.free 0 1 rfl; have hcg6_2 := FX15.out.cell 0 2 rfl rfl; have hfg6_2 := FX15.out.free 0 2 rfl; have hcg4_0 := FX15.out.cell 1 0 rfl rfl; have hfg4_0 := FX15.out.free 1 0 rfl; have hcg4_1 := FX15.out.cell 1 1 rfl rfl; have hfg4_1 := FX15.out.free 1 1 rfl; have hcg4_2 := FX15.out.cell 1 2 rfl rfl; have hfg4_2 := FX15.out.free 1 2 rfl; have hx := FX15.out.old HX.out; have hy := FX15.out.old HY.out))
  exact bodyPost_ret (results_ct rfl _ _ g4 24 #[.int .i64 (wrap64 (Int.tdiv (wrap64 (rd l0 a1)) 5)), .int .i64 (Int.tmod (wrap64 (rd l0 a1)) 5), .int .i64 (wrap64 (rd l0 (a1 + 1)))] (0, 0) _ rfl (FX15.out.blkOf 1 rfl) Try.underlying24 rfl (by kernel_rfl)) rfl ⟨rfl, FX15.out.below⟩
set_option maxHeartbeats 8000000 in
set_option maxRecDepth 100000 in
theorem spec_UnpackOp.u_one_true (A0 : Option Addr) (c0 : Nat) (l0 : List Int) (a1 : Int) (w : World) (hr0 : Kd.C (Kd.int .u8) w A0 l0.length l0) (hc0 : l0.length ≤ c0) (h0 : 0 ≤ a1) (h1 : a1 < (l0.length : Int)) (hkd : decide (1 ≤ wrap64 (Int.tdiv (wrap64 (rd l0 a1)) 5) ∧ wrap64 (Int.tdiv (wrap64 (rd l0 a1)) 5) ≤ 3) = false) (hok : opB (wrap64 (Int.tdiv (wrap64 (rd l0 a1)) 5)) (Int.tmod (wrap64 (rd l0 a1)) 5) 0 = true) :
    Calls Try.prog 10 #[.slice A0 l0.length c0, .int .i64 a1] w fun e w' => e = .returned (.tuple #[.agg #[.int .i64 (wrap64 (Int.tdiv (wrap64 (rd l0 a1)) 5)), .int .i64 (Int.tmod (wrap64 (rd l0 a1)) 5), .int .i64 0], .int .i64 (a1 + 1)]) ∧ Below w.heap.size w w' := by
  have hu24 := Try.underlying24
  have hl := Kd.C_max hr0
  have FX := Aside0.mk (YtimlccgpeoaigaaX.Fx.start w)
  obtain ⟨ad, e0, hx⟩ := Kd.at_int hr0 a1 h0 h1
  subst e0
  have HX := Aside0.mk hx
  clear hx
  have q1 : decide (a1 < 0) = false := decide_eq_false (by omega)
  have q2 : decide ((l0.length : Int) ≤ a1) = false := decide_eq_false (by omega)
  go_enter Try.func10, Try.ntmps10
  go_wp2_with ((with_reducible refine gate_dst (N := 4) rfl ?_); refine box_event ?hg (N := 4) ?hd (cs := #[.int .i64 0, .int .i64 0, .int .i64 0]) (t := 24) ?hr ?_; (case hd => rfl); (case hg => rfl); (case hr => first | (go_simp; done) | (go_simp; rfl)); intro g4 e3 w2 k4 b5; have FX1 := Aside0.mk (FX.out.alloc e3 k4 b5); clear e3 k4 b5; clear FX; have hcg4_0 := FX1.out.cell 0 0 rfl rfl; have hfg4_0 := FX1.out.free 0 0 rfl; have hcg4_1 := FX1.out.cell 0 1 rfl rfl; have hfg4_1 := FX1.out.free 0 1 rfl; have hcg4_2 := FX1.out.cell 0 2 rfl rfl; have hfg4_2 := FX1.out.free 0 2 rfl; have hx := FX1.out.old HX.out; have hx2 := fun o => pw_cell_below (below_alloc (Below.refl w2.heap.size w2) o) hx)
  go_region
  clear hx2
  clear hcg4_0 hfg4_0 hcg4_1 hfg4_1 hcg4_2 hfg4_2 hx
  refine YtimlccgpeoaigaaV.gen_then (p := fun W' => ∃ g6, YtimlccgpeoaigaaX.Fx w W' [YtimlccgpeoaigaaX.blk g6 24 #[.int .i64 (wrap64 (Int.tdiv (wrap64 (rd l0 a1)) 5)), .int .i64 (Int.tmod (wrap64 (rd l0 a1)) 5), .int .i64 0], YtimlccgpeoaigaaX.blk g4 24 #[.int .i64 0, .int .i64 0, .int .i64 0]] ∧ g6 = w2.heap.size) ⟨_, (FX1.out.alloc rfl (blk_new _ _) (below_alloc (Below.refl _ _) _)).drew, rfl⟩ ?_
  rintro w6 ⟨g6, fx6, e6⟩
  rw [← e6]
  have FXR := Aside0.mk fx6
  clear fx6 e6 FX1
  have hcg6_0 := FXR.out.cell 0 0 rfl rfl
  have hfg6_0 := FXR.out.free 0 0 rfl
  have hcg6_1 := FXR.out.cell 0 1 rfl rfl
  have hfg6_1 := FXR.out.free 0 1 rfl
  have hcg6_2 := FXR.out.cell 0 2 rfl rfl
  have hfg6_2 := FXR.out.free 0 2 rfl
  have hcg4_0 := FXR.out.cell 1 0 rfl rfl
  have hfg4_0 := FXR.out.free 1 0 rfl
  have hcg4_1 := FXR.out.cell 1 1 rfl rfl
  have hfg4_1 := FXR.out.free 1 1 rfl
  have hcg4_2 := FXR.out.cell 1 2 rfl rfl
  have hfg4_2 := FXR.out.free 1 2 rfl
  have hx := FXR.out.old HX.out
  go_wp2_with (first | (go_at_call 36; (with_reducible refine (spec_l17HasX.calls _ false _ (by rw [specHasX_tells]; exact congrArg some hkd)).mono ?_); rintro e w7 ⟨rfl, b8⟩; have FX6 := Aside0.mk (FXR.out.call b8.below); clear b8; clear FXR; clear hcg6_0 hfg6_0 hcg6_1 hfg6_1 hcg6_2 hfg6_2 hcg4_0 hfg4_0 hcg4_1 hfg4_1 hcg4_2 hfg4_2 hx; have hcg6_0 := FX6.out.cell 0 0 rfl rfl; have hfg6_0 := FX6.out.free 0 0 rfl; have hcg6_1 := FX6.out.cell 0 1 rfl rfl; have hfg6_1 := FX6.out.free 0 1 rfl; have hcg6_2 := FX6.out.cell 0 2 rfl rfl; have hfg6_2 := FX6.out.free 0 2 rfl; have hcg4_0 := FX6.out.cell 1 0 rfl rfl; have hfg4_0 := FX6.out.free 1 0 rfl; have hcg4_1 := FX6.out.cell 1 1 rfl rfl; have hfg4_1 := FX6.out.free 1 1 rfl; have hcg4_2 := FX6.out.cell 1 2 rfl rfl; have hfg4_2 := FX6.out.free 1 2 rfl; have hx := FX6.out.old HX.out) | (go_at_call 37; (with_reducible refine (spec_OpOk.calls 1 (wrap64 (Int.tdiv (wrap64 (rd l0 a1)) 5)) (Int.tmod (wrap64 (rd l0 a1)) 5) (0) true _ (by rw [specOpOk_tells 1 (by omega)]; exact congrArg some hok)).mono ?_); rintro e w10 ⟨rfl, b11⟩; have FX9 := Aside0.mk (FX6.out.call b11); clear b11; clear FX6; clear hcg6_0 hfg6_0 hcg6_1 hfg6_1 hcg6_2 hfg6_2 hcg4_0 hfg4_0 hcg4_1 hfg4_1 hcg4_2 hfg4_2 hx; have hcg6_0 := FX9.out.cell 0 0 rfl rfl; have hfg6_0 := FX9.out.free 0 0 rfl; have hcg6_1 := FX9.out.cell 0 1 rfl rfl; have hfg6_1 := FX9.out.free 0 1 rfl; have hcg6_2 := FX9.out.cell 0 2 rfl rfl; have hfg6_2 := FX9.out.free 0 2 rfl; have hcg4_0 := FX9.out.cell 1 0 rfl rfl; have hfg4_0 := FX9.out.free 1 0 rfl; have hcg4_1 := FX9.out.cell 1 1 rfl rfl; have hfg4_1 := FX9.out.free 1 1 rfl; have hcg4_2 := FX9.out.cell 1 2 rfl rfl; have hfg4_2 := FX9.out.free 1 2 rfl; have hx := FX9.out.old HX.out) | ((with_reducible refine gate_store (t := 24) (p := 4) rfl ?_); refine store_event (t := 24) (p := 4) (v := ?vo_w13) (w1 := (((w10.setCell ⟨g4, 0, none⟩ (.int .i64 (wrap64 (Int.tdiv (wrap64 (rd l0 a1)) 5)))).setCell ⟨g4, 1, none⟩ (.int .i64 (Int.tmod (wrap64 (rd l0 a1)) 5))).setCell ⟨g4, 2, none⟩ (.int .i64 0))) ?hg ?ho ?hn ?hr ?_; (case ho => rfl); (case hg => rfl); (case hn => rfl); (case hr => first | (go_simp; done) | (go_simp; rfl)); intro w13 e14; have FX12 : Aside0 (YtimlccgpeoaigaaX.Fx w w13 [YtimlccgpeoaigaaX.blk g6 24 #[.int .i64 (wrap64 (Int.tdiv (wrap64 (rd l0 a1)) 5)), .int .i64 (Int.tmod (wrap64 (rd l0 a1)) 5), .int .i64 0], YtimlccgpeoaigaaX.blk g4 24 #[.int .i64 (wrap64 (Int.tdiv (wrap64 (rd l0 a1)) 5)), .int .i64 (Int.tmod (wrap64 (rd l0 a1)) 5), .int .i64 0]]) := ⟨by rw [e14]; exact (((FX9.out.store 1 rfl 0 (.int .i64 (wrap64 (Int.tdiv (wrap64 (rd l0 a1)) 5))) #[.int .i64 (wrap64 (Int.tdiv (wrap64 (rd l0 a1)) 5)), .int .i64 0, .int .i64 0] rfl).store 1 rfl 1 (.int .i64 (Int.tmod (wrap64 (rd l0 a1)) 5)) #[.int .i64 (wrap64 (Int.tdiv (wrap64 (rd l0 a1)) 5)), .int .i64 (Int.tmod (wrap64 (rd l0 a1)) 5), .int .i64 0] rfl).store 1 rfl 2 (.int .i64 0) #[.int .i64 (wrap64 (Int.tdiv (wrap64 (rd l0 a1)) 5)), .int .i64 (Int.tmod (wrap64 (rd l0 a1)) 5), .int .i64 0] rfl)⟩; clear e14; clear FX9; clear hcg6_0 hfg6_0 hcg6_1 hfg6_1 hcg6_2 hfg6_2 hcg4_0 hfg4_0 hcg4_1 hfg4_1 hcg4_2 hfg4_2 hx; have hcg6_0 := FX12.out.cell 0 0 rfl rfl; have hfg6_0 := FX12.out.free 0 0 rfl; have hcg6_1 := FX12.out.cell 0 1 rfl rfl; have hfg6_1 := FX12.out.free 0 1 rfl; have hcg6_2 := FX12.out.cell 0 2 rfl rfl; have hfg6_2 := FX12.out.free 0 2 rfl; have hcg4_0 := FX12.out.cell 1 0 rfl rfl; have hfg4_0 := FX12.out.free 1 0 rfl; have hcg4_1 := FX12.out.cell 1 1 rfl rfl; have hfg4_1 := FX12.out.free 1 1 rfl; have hcg4_2 := FX12.out.cell 1 2 rfl rfl; have hfg4_2 := FX12.out.free 1 2 rfl; have hx := FX12.out.old HX.out))
  exact bodyPost_ret (results_ct rfl _ _ g4 24 #[.int .i64 (wrap64 (Int.tdiv (wrap64 (rd l0 a1)) 5)), .int .i64 (Int.tmod (wrap64 (rd l0 a1)) 5), .int .i64 0] (0, 0) _ rfl (FX12.out.blkOf 1 rfl) Try.underlying24 rfl (by kernel_rfl)) rfl ⟨rfl, FX12.out.below⟩
set_option maxHeartbeats 8000000 in
set_option maxRecDepth 100000 in
theorem spec_UnpackOp.u_two_false (A0 : Option Addr) (c0 : Nat) (l0 : List Int) (a1 : Int) (w : World) (hr0 : Kd.C (Kd.int .u8) w A0 l0.length l0) (hc0 : l0.length ≤ c0) (h0 : 0 ≤ a1) (h1 : a1 < (l0.length : Int)) (hkd : decide (1 ≤ wrap64 (Int.tdiv (wrap64 (rd l0 a1)) 5) ∧ wrap64 (Int.tdiv (wrap64 (rd l0 a1)) 5) ≤ 3) = true) (h2 : a1 + 1 < (l0.length : Int)) (hok : opB (wrap64 (Int.tdiv (wrap64 (rd l0 a1)) 5)) (Int.tmod (wrap64 (rd l0 a1)) 5) (wrap64 (rd l0 (a1 + 1))) = false) :
    Calls Try.prog 10 #[.slice A0 l0.length c0, .int .i64 a1] w fun e w' => e = .returned (.tuple #[.agg #[.int .i64 0, .int .i64 0, .int .i64 0], .int .i64 (-1)]) ∧ Below w.heap.size w w' := by
  have hu24 := Try.underlying24
  have hl := Kd.C_max hr0
  have FX := Aside0.mk (YtimlccgpeoaigaaX.Fx.start w)
  obtain ⟨ad, e0, hx⟩ := Kd.at_int hr0 a1 h0 h1
  obtain ⟨ad', e1, hy⟩ := Kd.at_int hr0 (a1 + 1) (by omega) h2
  obtain rfl : ad = ad' := by rw [e0] at e1; injection e1
  subst e0
  have HX := Aside0.mk hx
  clear hx
  have HY := Aside0.mk hy
  clear hy
  have q1 : decide (a1 < 0) = false := decide_eq_false (by omega)
  have q2 : decide ((l0.length : Int) ≤ a1) = false := decide_eq_false (by omega)
  have q3 : decide ((l0.length : Int) ≤ a1 + 1) = false := decide_eq_false (by omega)
  go_enter Try.func10, Try.ntmps10
  go_wp2_with ((with_reducible refine gate_dst (N := 4) rfl ?_); refine box_event ?hg (N := 4) ?hd (cs := #[.int .i64 0, .int .i64 0, .int .i64 0]) (t := 24) ?hr ?_; (case hd => rfl); (case hg => rfl); (case hr => first | (go_simp; done) | (go_simp; rfl)); intro g4 e3 w2 k4 b5; have FX1 := Aside0.mk (FX.out.alloc e3 k4 b5); clear e3 k4 b5; clear FX; have hcg4_0 := FX1.out.cell 0 0 rfl rfl; have hfg4_0 := FX1.out.free 0 0 rfl; have hcg4_1 := FX1.out.cell 0 1 rfl rfl; have hfg4_1 := FX1.out.free 0 1 rfl; have hcg4_2 := FX1.out.cell 0 2 rfl rfl; have hfg4_2 := FX1.out.free 0 2 rfl; have hx := FX1.out.old HX.out; have hy := FX1.out.old HY.out; have hx2 := fun o => pw_cell_below (below_alloc (Below.refl w2.heap.size w2) o) hx)
  go_region
  clear hx2
  clear hcg4_0 hfg4_0 hcg4_1 hfg4_1 hcg4_2 hfg4_2 hx hy
  refine YtimlccgpeoaigaaV.gen_then (p := fun W' => ∃ g6, YtimlccgpeoaigaaX.Fx w W' [YtimlccgpeoaigaaX.blk g6 24 #[.int .i64 (wrap64 (Int.tdiv (wrap64 (rd l0 a1)) 5)), .int .i64 (Int.tmod (wrap64 (rd l0 a1)) 5), .int .i64 0], YtimlccgpeoaigaaX.blk g4 24 #[.int .i64 0, .int .i64 0, .int .i64 0]] ∧ g6 = w2.heap.size) ⟨_, (FX1.out.alloc rfl (blk_new _ _) (below_alloc (Below.refl _ _) _)).drew, rfl⟩ ?_
  rintro w6 ⟨g6, fx6, e6⟩
  rw [← e6]
  have FXR := Aside0.mk fx6
  clear fx6 e6 FX1
  have hcg6_0 := FXR.out.cell 0 0 rfl rfl
  have hfg6_0 := FXR.out.free 0 0 rfl
  have hcg6_1 := FXR.out.cell 0 1 rfl rfl
  have hfg6_1 := FXR.out.free 0 1 rfl
  have hcg6_2 := FXR.out.cell 0 2 rfl rfl
  have hfg6_2 := FXR.out.free 0 2 rfl
  have hcg4_0 := FXR.out.cell 1 0 rfl rfl
  have hfg4_0 := FXR.out.free 1 0 rfl
  have hcg4_1 := FXR.out.cell 1 1 rfl rfl
  have hfg4_1 := FXR.out.free 1 1 rfl
  have hcg4_2 := FXR.out.cell 1 2 rfl rfl
  have hfg4_2 := FXR.out.free 1 2 rfl
  have hx := FXR.out.old HX.out
  have hy := FXR.out.old HY.out
  go_wp2_with (first | (go_at_call 36; (with_reducible refine (spec_l17HasX.calls _ true _ (by rw [specHasX_tells]; exact congrArg some hkd)).mono ?_); rintro e w7 ⟨rfl, b8⟩; have FX6 := Aside0.mk (FXR.out.call b8.below); clear b8; clear FXR; clear hcg6_0 hfg6_0 hcg6_1 hfg6_1 hcg6_2 hfg6_2 hcg4_0 hfg4_0 hcg4_1 hfg4_1 hcg4_2 hfg4_2 hx hy; have hcg6_0 := FX6.out.cell 0 0 rfl rfl; have hfg6_0 := FX6.out.free 0 0 rfl; have hcg6_1 := FX6.out.cell 0 1 rfl rfl; have hfg6_1 := FX6.out.free 0 1 rfl; have hcg6_2 := FX6.out.cell 0 2 rfl rfl; have hfg6_2 := FX6.out.free 0 2 rfl; have hcg4_0 := FX6.out.cell 1 0 rfl rfl; have hfg4_0 := FX6.out.free 1 0 rfl; have hcg4_1 := FX6.out.cell 1 1 rfl rfl; have hfg4_1 := FX6.out.free 1 1 rfl; have hcg4_2 := FX6.out.cell 1 2 rfl rfl; have hfg4_2 := FX6.out.free 1 2 rfl; have hx := FX6.out.old HX.out; have hy := FX6.out.old HY.out) | ((with_reducible refine gate_store (t := 3) (p := 45) rfl ?_); refine store_event (t := 3) (p := 45) (v := ?vo_w10) (w1 := (w7.setCell ⟨g6, 2, none⟩ (.int .i64 (wrap64 (rd l0 (a1 + 1)))))) ?hg ?ho ?hn ?hr ?_; (case ho => rfl); (case hg => rfl); (case hn => rfl); (case hr => first | (go_simp; done) | (go_simp; rfl)); intro w10 e11; have FX9 : Aside0 (YtimlccgpeoaigaaX.Fx w w10 [YtimlccgpeoaigaaX.blk g6 24 #[.int .i64 (wrap64 (Int.tdiv (wrap64 (rd l0 a1)) 5)), .int .i64 (Int.tmod (wrap64 (rd l0 a1)) 5), .int .i64 (wrap64 (rd l0 (a1 + 1)))], YtimlccgpeoaigaaX.blk g4 24 #[.int .i64 0, .int .i64 0, .int .i64 0]]) := ⟨by rw [e11]; exact (FX6.out.store 0 rfl 2 (.int .i64 (wrap64 (rd l0 (a1 + 1)))) #[.int .i64 (wrap64 (Int.tdiv (wrap64 (rd l0 a1)) 5)), .int .i64 (Int.tmod (wrap64 (rd l0 a1)) 5), .int .i64 (wrap64 (rd l0 (a1 + 1)))] rfl)⟩; clear e11; clear FX6; clear hcg6_0 hfg6_0 hcg6_1 hfg6_1 hcg6_2 hfg6_2 hcg4_0 hfg4_0 hcg4_1 hfg4_1 hcg4_2 hfg4_2 hx hy; have hcg6_0 := FX9.out.cell 0 0 rfl rfl; have hfg6_0 := FX9.out.free 0 0 rfl; have hcg6_1 := FX9.out.cell 0 1 rfl rfl; have hfg6_1 := FX9.out.free 0 1 rfl; have hcg6_2 := FX9.out.cell 0 2 rfl rfl; have hfg6_2 := FX9.out.free 0 2 rfl; have hcg4_0 := FX9.out.cell 1 0 rfl rfl; have hfg4_0 := FX9.out.free 1 0 rfl; have hcg4_1 := FX9.out.cell 1 1 rfl rfl; have hfg4_1 := FX9.out.free 1 1 rfl; have hcg4_2 := FX9.out.cell 1 2 rfl rfl; have hfg4_2 := FX9.out.free 1 2 rfl; have hx := FX9.out.old HX.out; have hy := FX9.out.old HY.out) | (go_at_call 37; (with_reducible refine (spec_OpOk.calls 1 (wrap64 (Int.tdiv (wrap64 (rd l0 a1)) 5)) (Int.tmod (wrap64 (rd l0 a1)) 5) (wrap64 (rd l0 (a1 + 1))) false _ (by rw [specOpOk_tells 1 (by omega)]; exact congrArg some hok)).mono ?_); rintro e w13 ⟨rfl, b14⟩; have FX12 := Aside0.mk (FX9.out.call b14); clear b14; clear FX9; clear hcg6_0 hfg6_0 hcg6_1 hfg6_1 hcg6_2 hfg6_2 hcg4_0 hfg4_0 hcg4_1 hfg4_1 hcg4_2 hfg4_2 hx hy; have hcg6_0 := FX12.out.cell 0 0 rfl rfl; have hfg6_0 := FX12.out.free 0 0 rfl; have hcg6_1 := FX12.out.cell 0 1 rfl rfl; have hfg6_1 := FX12.out.free 0 1 rfl; have hcg6_2 := FX12.out.cell 0 2 rfl rfl; have hfg6_2 := FX12.out.free 0 2 rfl; have hcg4_0 := FX12.out.cell 1 0 rfl rfl; have hfg4_0 := FX12.out.free 1 0 rfl; have hcg4_1 := FX12.out.cell 1 1 rfl rfl; have hfg4_1 := FX12.out.free 1 1 rfl; have hcg4_2 := FX12.out.cell 1 2 rfl rfl; have hfg4_2 := FX12.out.free 1 2 rfl; have hx := FX12.out.old HX.out; have hy := FX12.out.old HY.out) | ((with_reducible refine gate_store (t := 24) (p := 4) rfl ?_); refine store_event (t := 24) (p := 4) (v := ?vo_w16) (w1 := (((w13.setCell ⟨g4, 0, none⟩ (.int .i64 0)).setCell ⟨g4, 1, none⟩ (.int .i64 0)).setCell ⟨g4, 2, none⟩ (.int .i64 0))) ?hg ?ho ?hn ?hr ?_; (case ho => rfl); (case hg => rfl); (case hn => rfl); (case hr => first | (go_simp; done) | (go_simp; rfl)); intro w16 e17; have FX15 : Aside0 (YtimlccgpeoaigaaX.Fx w w16 [YtimlccgpeoaigaaX.blk g6 24 #[.int .i64 (wrap64 (Int.tdiv (wrap64 (rd l0 a1)) 5)), .int .i64 (Int.tmod (wrap64 (rd l0 a1)) 5), .int .i64 (wrap64 (rd l0 (a1 + 1)))], YtimlccgpeoaigaaX.blk g4 24 #[.int .i64 0, .int .i64 0, .int .i64 0]]) := ⟨by rw [e17]; exact (((FX12.out.store 1 rfl 0 (.int .i64 0) #[.int .i64 0, .int .i64 0, .int .i64 0] rfl).store 1 rfl 1 (.int .i64 0) #[.int .i64 0, .int .i64 0, .int .i64 0] rfl).store 1 rfl 2 (.int .i64 0) #[.int .i64 0, .int .i64 0, .int .i64 0] rfl)⟩; clear e17; clear FX12; clear hcg6_0 hfg6_0 hcg6_1 hfg6_1 hcg6_2 hfg6_2 hcg4_0 hfg4_0 hcg4_1 hfg4_1 hcg4_2 hfg4_2 hx hy; have hcg6_0 := FX15.out.cell 0 0 rfl rfl; have hfg6_0 := FX15.out.free 0 0 rfl; have hcg6_1 := FX15.out.cell 0 1 rfl rfl; have hfg6_1 := FX15.out.free 0 1 rfl; have hcg6_2 := FX15.out.cell 0 2 rfl rfl; have hfg6_2 := FX15.out.free 0 2 rfl; have hcg4_0 := FX15.out.cell 1 0 rfl rfl; have hfg4_0 := FX15.out.free 1 0 rfl; have hcg4_1 := FX15.out.cell 1 1 rfl rfl; have hfg4_1 := FX15.out.free 1 1 rfl; have hcg4_2 := FX15.out.cell 1 2 rfl rfl; have hfg4_2 := FX15.out.free 1 2 rfl; have hx := FX15.out.old HX.out; have hy := FX15.out.old HY.out))
  exact bodyPost_ret (results_ct rfl _ _ g4 24 #[.int .i64 0, .int .i64 0, .int .i64 0] (0, 0) _ rfl (FX15.out.blkOf 1 rfl) Try.underlying24 rfl (by kernel_rfl)) rfl ⟨rfl, FX15.out.below⟩
set_option maxHeartbeats 8000000 in
set_option maxRecDepth 100000 in
theorem spec_UnpackOp.u_one_false (A0 : Option Addr) (c0 : Nat) (l0 : List Int) (a1 : Int) (w : World) (hr0 : Kd.C (Kd.int .u8) w A0 l0.length l0) (hc0 : l0.length ≤ c0) (h0 : 0 ≤ a1) (h1 : a1 < (l0.length : Int)) (hkd : decide (1 ≤ wrap64 (Int.tdiv (wrap64 (rd l0 a1)) 5) ∧ wrap64 (Int.tdiv (wrap64 (rd l0 a1)) 5) ≤ 3) = false) (hok : opB (wrap64 (Int.tdiv (wrap64 (rd l0 a1)) 5)) (Int.tmod (wrap64 (rd l0 a1)) 5) 0 = false) :
    Calls Try.prog 10 #[.slice A0 l0.length c0, .int .i64 a1] w fun e w' => e = .returned (.tuple #[.agg #[.int .i64 0, .int .i64 0, .int .i64 0], .int .i64 (-1)]) ∧ Below w.heap.size w w' := by
  have hu24 := Try.underlying24
  have hl := Kd.C_max hr0
  have FX := Aside0.mk (YtimlccgpeoaigaaX.Fx.start w)
  obtain ⟨ad, e0, hx⟩ := Kd.at_int hr0 a1 h0 h1
  subst e0
  have HX := Aside0.mk hx
  clear hx
  have q1 : decide (a1 < 0) = false := decide_eq_false (by omega)
  have q2 : decide ((l0.length : Int) ≤ a1) = false := decide_eq_false (by omega)
  go_enter Try.func10, Try.ntmps10
  go_wp2_with ((with_reducible refine gate_dst (N := 4) rfl ?_); refine box_event ?hg (N := 4) ?hd (cs := #[.int .i64 0, .int .i64 0, .int .i64 0]) (t := 24) ?hr ?_; (case hd => rfl); (case hg => rfl); (case hr => first | (go_simp; done) | (go_simp; rfl)); intro g4 e3 w2 k4 b5; have FX1 := Aside0.mk (FX.out.alloc e3 k4 b5); clear e3 k4 b5; clear FX; have hcg4_0 := FX1.out.cell 0 0 rfl rfl; have hfg4_0 := FX1.out.free 0 0 rfl; have hcg4_1 := FX1.out.cell 0 1 rfl rfl; have hfg4_1 := FX1.out.free 0 1 rfl; have hcg4_2 := FX1.out.cell 0 2 rfl rfl; have hfg4_2 := FX1.out.free 0 2 rfl; have hx := FX1.out.old HX.out; have hx2 := fun o => pw_cell_below (below_alloc (Below.refl w2.heap.size w2) o) hx)
  go_region
  clear hx2
  clear hcg4_0 hfg4_0 hcg4_1 hfg4_1 hcg4_2 hfg4_2 hx
  refine YtimlccgpeoaigaaV.gen_then (p := fun W' => ∃ g6, YtimlccgpeoaigaaX.Fx w W' [YtimlccgpeoaigaaX.blk g6 24 #[.int .i64 (wrap64 (Int.tdiv (wrap64 (rd l0 a1)) 5)), .int .i64 (Int.tmod (wrap64 (rd l0 a1)) 5), .int .i64 0], YtimlccgpeoaigaaX.blk g4 24 #[.int .i64 0, .int .i64 0, .int .i64 0]] ∧ g6 = w2.heap.size) ⟨_, (FX1.out.alloc rfl (blk_new _ _) (below_alloc (Below.refl _ _) _)).drew, rfl⟩ ?_
  rintro w6 ⟨g6, fx6, e6⟩
  rw [← e6]
  have FXR := Aside0.mk fx6
  clear fx6 e6 FX1
  have hcg6_0 := FXR.out.cell 0 0 rfl rfl
  have hfg6_0 := FXR.out.free 0 0 rfl
  have hcg6_1 := FXR.out.cell 0 1 rfl rfl
  have hfg6_1 := FXR.out.free 0 1 rfl
  have hcg6_2 := FXR.out.cell 0 2 rfl rfl
  have hfg6_2 := FXR.out.free 0 2 rfl
  have hcg4_0 := FXR.out.cell 1 0 rfl rfl
  have hfg4_0 := FXR.out.free 1 0 rfl
  have hcg4_1 := FXR.out.cell 1 1 rfl rfl
  have hfg4_1 := FXR.out.free 1 1 rfl
  have hcg4_2 := FXR.out.cell 1 2 rfl rfl
  have hfg4_2 := FXR.out.free 1 2 rfl
  have hx := FXR.out.old HX.out
  go_wp2_with (first | (go_at_call 36; (with_reducible refine (spec_l17HasX.calls _ false _ (by rw [specHasX_tells]; exact congrArg some hkd)).mono ?_); rintro e w7 ⟨rfl, b8⟩; have FX6 := Aside0.mk (FXR.out.call b8.below); clear b8; clear FXR; clear hcg6_0 hfg6_0 hcg6_1 hfg6_1 hcg6_2 hfg6_2 hcg4_0 hfg4_0 hcg4_1 hfg4_1 hcg4_2 hfg4_2 hx; have hcg6_0 := FX6.out.cell 0 0 rfl rfl; have hfg6_0 := FX6.out.free 0 0 rfl; have hcg6_1 := FX6.out.cell 0 1 rfl rfl; have hfg6_1 := FX6.out.free 0 1 rfl; have hcg6_2 := FX6.out.cell 0 2 rfl rfl; have hfg6_2 := FX6.out.free 0 2 rfl; have hcg4_0 := FX6.out.cell 1 0 rfl rfl; have hfg4_0 := FX6.out.free 1 0 rfl; have hcg4_1 := FX6.out.cell 1 1 rfl rfl; have hfg4_1 := FX6.out.free 1 1 rfl; have hcg4_2 := FX6.out.cell 1 2 rfl rfl; have hfg4_2 := FX6.out.free 1 2 rfl; have hx := FX6.out.old HX.out) | (go_at_call 37; (with_reducible refine (spec_OpOk.calls 1 (wrap64 (Int.tdiv (wrap64 (rd l0 a1)) 5)) (Int.tmod (wrap64 (rd l0 a1)) 5) (0) false _ (by rw [specOpOk_tells 1 (by omega)]; exact congrArg some hok)).mono ?_); rintro e w10 ⟨rfl, b11⟩; have FX9 := Aside0.mk (FX6.out.call b11); clear b11; clear FX6; clear hcg6_0 hfg6_0 hcg6_1 hfg6_1 hcg6_2 hfg6_2 hcg4_0 hfg4_0 hcg4_1 hfg4_1 hcg4_2 hfg4_2 hx; have hcg6_0 := FX9.out.cell 0 0 rfl rfl; have hfg6_0 := FX9.out.free 0 0 rfl; have hcg6_1 := FX9.out.cell 0 1 rfl rfl; have hfg6_1 := FX9.out.free 0 1 rfl; have hcg6_2 := FX9.out.cell 0 2 rfl rfl; have hfg6_2 := FX9.out.free 0 2 rfl; have hcg4_0 := FX9.out.cell 1 0 rfl rfl; have hfg4_0 := FX9.out.free 1 0 rfl; have hcg4_1 := FX9.out.cell 1 1 rfl rfl; have hfg4_1 := FX9.out.free 1 1 rfl; have hcg4_2 := FX9.out.cell 1 2 rfl rfl; have hfg4_2 := FX9.out.free 1 2 rfl; have hx := FX9.out.old HX.out) | ((with_reducible refine gate_store (t := 24) (p := 4) rfl ?_); refine store_event (t := 24) (p := 4) (v := ?vo_w13) (w1 := (((w10.setCell ⟨g4, 0, none⟩ (.int .i64 0)).setCell ⟨g4, 1, none⟩ (.int .i64 0)).setCell ⟨g4, 2, none⟩ (.int .i64 0))) ?hg ?ho ?hn ?hr ?_; (case ho => rfl); (case hg => rfl); (case hn => rfl); (case hr => first | (go_simp; done) | (go_simp; rfl)); intro w13 e14; have FX12 : Aside0 (YtimlccgpeoaigaaX.Fx w w13 [YtimlccgpeoaigaaX.blk g6 24 #[.int .i64 (wrap64 (Int.tdiv (wrap64 (rd l0 a1)) 5)), .int .i64 (Int.tmod (wrap64 (rd l0 a1)) 5), .int .i64 0], YtimlccgpeoaigaaX.blk g4 24 #[.int .i64 0, .int .i64 0, .int .i64 0]]) := ⟨by rw [e14]; exact (((FX9.out.store 1 rfl 0 (.int .i64 0) #[.int .i64 0, .int .i64 0, .int .i64 0] rfl).store 1 rfl 1 (.int .i64 0) #[.int .i64 0, .int .i64 0, .int .i64 0] rfl).store 1 rfl 2 (.int .i64 0) #[.int .i64 0, .int .i64 0, .int .i64 0] rfl)⟩; clear e14; clear FX9; clear hcg6_0 hfg6_0 hcg6_1 hfg6_1 hcg6_2 hfg6_2 hcg4_0 hfg4_0 hcg4_1 hfg4_1 hcg4_2 hfg4_2 hx; have hcg6_0 := FX12.out.cell 0 0 rfl rfl; have hfg6_0 := FX12.out.free 0 0 rfl; have hcg6_1 := FX12.out.cell 0 1 rfl rfl; have hfg6_1 := FX12.out.free 0 1 rfl; have hcg6_2 := FX12.out.cell 0 2 rfl rfl; have hfg6_2 := FX12.out.free 0 2 rfl; have hcg4_0 := FX12.out.cell 1 0 rfl rfl; have hfg4_0 := FX12.out.free 1 0 rfl; have hcg4_1 := FX12.out.cell 1 1 rfl rfl; have hfg4_1 := FX12.out.free 1 1 rfl; have hcg4_2 := FX12.out.cell 1 2 rfl rfl; have hfg4_2 := FX12.out.free 1 2 rfl; have hx := FX12.out.old HX.out))
  exact bodyPost_ret (results_ct rfl _ _ g4 24 #[.int .i64 0, .int .i64 0, .int .i64 0] (0, 0) _ rfl (FX12.out.blkOf 1 rfl) Try.underlying24 rfl (by kernel_rfl)) rfl ⟨rfl, FX12.out.below⟩
def spec_UnpackOp.f (l0 : List Int) (a1 : Int) : Option (Int × Int × Int × Int) := some (unpack l0 a1)
theorem spec_UnpackOp.calls (A0 : Option Addr) (c0 : Nat) (l0 : List Int) (a1 : Int) (r1 : Int) (r2 : Int) (r3 : Int) (r4 : Int) (w : World) (hr0 : Kd.C (Kd.int .u8) w A0 l0.length l0) (hc0 : l0.length ≤ c0) (h : spec_UnpackOp.f l0 a1 = some (r1, r2, r3, r4)) :
    Calls Try.prog 10 #[.slice A0 l0.length c0, .int .i64 a1] w fun e w' => e = .returned (.tuple #[.agg #[.int .i64 r1, .int .i64 r2, .int .i64 r3], .int .i64 r4]) ∧ Below w.heap.size w w' := by
  have h' := Option.some.inj h
  clear h
  unfold unpack at h'
  by_cases h0 : a1 < 0
  · rw [if_pos h0] at h'
    simp only [Prod.mk.injEq] at h'
    obtain ⟨rfl, rfl, rfl, rfl⟩ := h'
    exact spec_UnpackOp.u_low A0 c0 l0 a1 w hr0 hc0 h0
  rw [if_neg h0] at h'
  by_cases h1 : (l0.length : Int) ≤ a1
  · rw [if_pos h1] at h'
    simp only [Prod.mk.injEq] at h'
    obtain ⟨rfl, rfl, rfl, rfl⟩ := h'
    exact spec_UnpackOp.u_high A0 c0 l0 a1 w hr0 hc0 (by omega) h1
  rw [if_neg h1] at h'
  by_cases h2 : 1 ≤ wrap64 (Int.tdiv (wrap64 (rd l0 a1)) 5) ∧ wrap64 (Int.tdiv (wrap64 (rd l0 a1)) 5) ≤ 3
  · rw [if_pos h2] at h'
    by_cases h3 : a1 + 1 < (l0.length : Int)
    · rw [if_pos h3] at h'
      by_cases h4 : opB (wrap64 (Int.tdiv (wrap64 (rd l0 a1)) 5)) (Int.tmod (wrap64 (rd l0 a1)) 5) (wrap64 (rd l0 (a1 + 1))) = true
      · rw [if_pos h4] at h'
        simp only [Prod.mk.injEq] at h'
        obtain ⟨rfl, rfl, rfl, rfl⟩ := h'
        exact spec_UnpackOp.u_two_true A0 c0 l0 a1 w hr0 hc0 (by omega) (by omega) (decide_eq_true h2) h3 h4
      · rw [if_neg h4] at h'
        simp only [Prod.mk.injEq] at h'
        obtain ⟨rfl, rfl, rfl, rfl⟩ := h'
        exact spec_UnpackOp.u_two_false A0 c0 l0 a1 w hr0 hc0 (by omega) (by omega) (decide_eq_true h2) h3 (Bool.eq_false_iff.mpr h4)
    · rw [if_neg h3] at h'
      simp only [Prod.mk.injEq] at h'
      obtain ⟨rfl, rfl, rfl, rfl⟩ := h'
      exact spec_UnpackOp.u_short A0 c0 l0 a1 w hr0 hc0 (by omega) (by omega) (decide_eq_true h2) h3
  · rw [if_neg h2] at h'
    by_cases h4 : opB (wrap64 (Int.tdiv (wrap64 (rd l0 a1)) 5)) (Int.tmod (wrap64 (rd l0 a1)) 5) 0 = true
    · rw [if_pos h4] at h'
      simp only [Prod.mk.injEq] at h'
      obtain ⟨rfl, rfl, rfl, rfl⟩ := h'
      exact spec_UnpackOp.u_one_true A0 c0 l0 a1 w hr0 hc0 (by omega) (by omega) (decide_eq_false h2) h4
    · rw [if_neg h4] at h'
      simp only [Prod.mk.injEq] at h'
      obtain ⟨rfl, rfl, rfl, rfl⟩ := h'
      exact spec_UnpackOp.u_one_false A0 c0 l0 a1 w hr0 hc0 (by omega) (by omega) (decide_eq_false h2) (Bool.eq_false_iff.mpr h4)


/-! ### spec_SumBytes: function 43 -/
def spec_SumBytes.l0 : Nat → List Int → Int → Int → Option (Int)
  | 0, _, _, _ => none
  | k + 1, x0, x3, x4 => if x4 < (x0.length : Int) then (if 0 ≤ x4 then (spec_SumBytes.l0 k x0 (Int.tmod (wrap64 ((wrap64 (31 * x3)) + (wrap64 (rd x0 x4)))) 65521) (wrap64 (x4 + 1))) else (none)) else (some x3)
def spec_SumBytes.f (k : Nat) (l0 : List Int) : Option (Int) := spec_SumBytes.l0 k l0 1 0
theorem spec_SumBytes.mono_l : ∀ k, (∀ y0 y1 y2, LeO (spec_SumBytes.l0 k y0 y1 y2) (spec_SumBytes.l0 (k + 1) y0 y1 y2))
  | 0 => fun _ _ _ r h => by simp [spec_SumBytes.l0] at h
  | k + 1 => by
    have ih0 := spec_SumBytes.mono_l k
    · intro y0 y1 y2
      unfold spec_SumBytes.l0
      repeat' first
      | (with_reducible exact ih0 _ _ _)
      | (with_reducible exact LeO.refl _)
      | (with_reducible exact LeO.none _)
      | (with_reducible refine LeO.ite ?_ ?_)
      | (with_reducible refine LeO.bind ?_ (fun _ => ?_))
      | exact ih0 _ _ _
      | exact LeO.none _
      | refine LeO.ite ?_ ?_
      | refine LeO.bind ?_ (fun _ => ?_)
theorem spec_SumBytes.mono : ∀ a0 k, LeO (spec_SumBytes.f k a0) (spec_SumBytes.f (k + 1) a0) := by
  intro a0 k
  have ih0 := spec_SumBytes.mono_l k
  unfold spec_SumBytes.f
  repeat' first
      | (with_reducible exact ih0 _ _ _)
      | (with_reducible exact LeO.refl _)
      | (with_reducible exact LeO.none _)
      | (with_reducible refine LeO.ite ?_ ?_)
      | (with_reducible refine LeO.bind ?_ (fun _ => ?_))
      | exact ih0 _ _ _
      | exact LeO.none _
      | refine LeO.ite ?_ ?_
      | refine LeO.bind ?_ (fun _ => ?_)
set_option maxHeartbeats 8000000 in
set_option maxRecDepth 100000 in
theorem spec_SumBytes.calls (k : Nat) (A0 : Option Addr) (c0 : Nat) (l0 : List Int) (r : Int) (w : World) (hr0 : Kd.C (Kd.int .u8) w A0 l0.length l0) (hc0 : l0.length ≤ c0) (h : spec_SumBytes.f k l0 = some r) :
    Calls Try.prog 43 #[.slice A0 l0.length c0] w fun e w' => e = .returned (.int .i64 r) ∧ Drawn0 w w' := by
  have HR0 := Aside0.mk hr0
  have HC0 := Aside0.mk hc0
  clear hr0 hc0
  have H : (spec_SumBytes.l0 k l0 1 0) = some r := h
  clear h
  have H' := Aside0.mk H
  clear H
  go_enter Try.func43, Try.ntmps43
  go_wp2
  go_loopg [3, 4] k (fun kq v3 v4 w' => ∃ (x3_1 : Int) (x4_1 : Int), v3 = .int .i64 x3_1 ∧ v4 = .int .i64 x4_1 ∧ Aside0 (spec_SumBytes.l0 kq l0 x3_1 x4_1 = some r) ∧ Aside0 (kq ≤ k) ∧ Drawn0 w w')
  case atStart => exact ⟨(1), (0), (by first | rfl | (simp; done) | (simp [*]; done)), (by first | rfl | (simp; done) | (simp [*]; done)), H', ⟨Nat.le_refl _⟩, by repeat (first | exact Drawn0.refl _ | apply Drawn0.step)⟩
  case round =>
    clear H'
    obtain ⟨x3_1, x4_1, rfl, rfl, HA, HK1, ⟨m1, rfl⟩⟩ := hrel
    cases gk with
    | zero => exact absurd HA.out (by simp [spec_SumBytes.l0])
    | succ k1 =>
      have H := HA.out
      clear HA
      simp only [spec_SumBytes.l0] at H
      by_cases c2 : x4_1 < (l0.length : Int)
      · rw [if_pos c2] at H
        have c2b0 : decide (x4_1 < (l0.length : Int)) = true := decide_eq_true c2
        clear c2
        by_cases c3 : 0 ≤ x4_1
        · rw [if_pos c3] at H
          have c3b0 : decide (0 ≤ x4_1) = true := decide_eq_true c3
          clear c3
          have H' := Aside0.mk H
          clear H
          have p117 : 0 ≤ (x4_1 : Int) := of_decide_eq_true (by first | (with_reducible assumption) | assumption)
          have q117 : x4_1 < (l0.length : Int) := of_decide_eq_true (by first | (with_reducible assumption) | assumption)
          obtain ⟨ad117, e117, hx117_0⟩ := Kd.at_int HR0.out x4_1 p117 q117
          cases e117
          replace p117 := eq_true p117
          replace q117 := eq_true q117
          go_wp2
          go_roundg k1
          case measure => have := HK1.out; omega
          case rel => exact ⟨(Int.tmod (wrap64 ((wrap64 (31 * x3_1)) + (wrap64 (rd l0 x4_1)))) 65521), (wrap64 (x4_1 + 1)), (by first | rfl | (simp; done) | (simp [*]; done)), (by first | rfl | (simp; done) | (simp [*]; done)), H', ⟨by have := HK1.out; omega⟩, by repeat (first | exact Drawn0.refl _ | apply Drawn0.step)⟩
        · rw [if_neg c3] at H
          exact absurd H (by simp)
      · rw [if_neg c2] at H
        have c2b0 : decide (x4_1 < (l0.length : Int)) = false := decide_eq_false c2
        clear c2
        obtain rfl := Option.some.inj H
        go_wp2
        go_ret
        exact ⟨by first | rfl | (simp; done) | (simp [*]; done), by repeat (first | exact Drawn0.refl _ | apply Drawn0.step)⟩

/-! ### spec_l17Block: function 50 (by hand) -/
def readOps : Nat → List Int → Int → List S24 → Option (List S24 × Int)
  | 0, _, a, acc => some (acc, a)
  | n + 1, l, a, acc => if (unpack l a).2.2.2 < 0 then none else readOps n l (unpack l a).2.2.2 (acc ++ [⟨(unpack l a).1, (unpack l a).2.1, (unpack l a).2.2.1⟩])
def blockEnd (o : Option (List S24 × Int)) (n : Int) : List S24 × Int :=
  match o with
  | none => ([], -1)
  | some (ops, a) => if a = n then (ops, n + 2) else ([], -1)
theorem readOps_fail {n : Nat} {l : List Int} {a : Int} {acc : List S24} {u1 u2 u3 u4 : Int} (hu : unpack l a = (u1, u2, u3, u4)) (h : u4 < 0) : readOps (n + 1) l a acc = none := by
  simp only [readOps, hu]
  rw [if_pos h]
theorem readOps_step {n : Nat} {l : List Int} {a : Int} {acc : List S24} {u1 u2 u3 u4 : Int} (hu : unpack l a = (u1, u2, u3, u4)) (h : ¬ u4 < 0) : readOps (n + 1) l a acc = readOps n l u4 (acc ++ [⟨u1, u2, u3⟩]) := by
  simp only [readOps, hu]
  rw [if_neg h]
theorem byte_at {l : List Int} (h : ∀ x ∈ l, 0 ≤ x ∧ x ≤ 255) (i : Int) : 0 ≤ rd l i ∧ rd l i ≤ 255 := by
  unfold rd
  rw [List.getD_eq_getElem?_getD]
  rcases Nat.lt_or_ge i.toNat l.length with hl | hl
  · rw [List.getElem?_eq_getElem hl]
    exact h _ (List.getElem_mem hl)
  · rw [List.getElem?_eq_none hl]
    simp
theorem add_lit (ad : Addr) (n : Nat) (h : n ≠ 0) : ad.add n = ⟨ad.block, ad.off + n, none⟩ := by unfold Addr.add; simp [h]
theorem add_nil (ad : Addr) : ad.add 0 = ad := by unfold Addr.add; simp

def sumStep (s x : Int) : Int := Int.tmod (wrap64 ((wrap64 (31 * s)) + (wrap64 x))) 65521
def sumOf (l : List Int) : Int := l.foldl sumStep 1
theorem wrN {n m : Nat} (h : n < m) (hm : m ≤ 9223372036854775807) : wrap64 ((n : Int) + 1) = ((n + 1 : Nat) : Int) := by
  unfold wrap64
  omega
theorem rd_at {l : List Int} {n : Nat} (h : n < l.length) : rd l (n : Int) = l[n] := by unfold rd; simp [List.getD_eq_getElem?_getD, h]

theorem specSum_loop (l : List Int) (hl : l.length ≤ 9223372036854775807) (d : Nat) : ∀ (n k : Nat) (s : Int), n + d = l.length → d < k → spec_SumBytes.l0 k l s (n : Int) = some ((l.drop n).foldl sumStep s) := by
  induction d with
  | zero =>
    intro n k s hn hk
    obtain ⟨k, rfl⟩ : ∃ m, k = m + 1 := ⟨k - 1, by omega⟩
    simp only [spec_SumBytes.l0]
    rw [if_neg (by omega), List.drop_of_length_le (by omega)]
    rfl
  | succ d ih =>
    intro n k s hn hk
    obtain ⟨k, rfl⟩ : ∃ m, k = m + 1 := ⟨k - 1, by omega⟩
    have hlt : n < l.length := by omega
    simp only [spec_SumBytes.l0]
    rw [if_pos (by omega), if_pos (by omega), wrN hlt hl, List.drop_eq_getElem_cons hlt, List.foldl_cons, ih (n + 1) k _ (by omega) (by omega), rd_at hlt]
    rfl
theorem specSum_tells (l : List Int) (hl : l.length ≤ 9223372036854775807) : spec_SumBytes.f (l.length + 1) l = some (sumOf l) := by
  unfold spec_SumBytes.f sumOf
  exact specSum_loop l hl l.length 0 (l.length + 1) 1 (by omega) (by omega)

set_option maxHeartbeats 8000000 in
set_option maxRecDepth 100000 in
theorem spec_l17Block.A (A0 : Option Addr) (c0 : Nat) (l0 : List Int) (w : World) (hr0 : Kd.C (Kd.int .u8) w A0 l0.length l0) (hc0 : l0.length ≤ c0) (hby : ∀ x ∈ l0, 0 ≤ x ∧ x ≤ 255) (h : l0.length < 2) :
    Calls Try.prog 50 #[.slice A0 l0.length c0] w fun e w' => ∃ v0_ : Value, e = .returned (.tuple #[v0_, .int .i64 (-1)]) ∧ Kd.R k24 24 w' w.heap.size (fun _ => True) v0_ ([]) ∧ Below w.heap.size w w' := by
  have b1 : decide (l0.length < 2) = true := decide_eq_true h
  have b2 : decide ((l0.length : Int) < 2) = true := decide_eq_true (by omega)
  clear h hby
  go_enter Try.func50, Try.ntmps50
  go_wp2
  go_ret2
  exact ⟨_, rfl, Kd.R_nil _ _ _ _ _, Below.refl _ _⟩
set_option maxHeartbeats 8000000 in
set_option maxRecDepth 100000 in
theorem spec_l17Block.B (A0 : Option Addr) (c0 : Nat) (l0 : List Int) (w : World) (hr0 : Kd.C (Kd.int .u8) w A0 l0.length l0) (hc0 : l0.length ≤ c0) (hby : ∀ x ∈ l0, 0 ≤ x ∧ x ≤ 255) (h0 : 2 ≤ l0.length) (h1 : ¬ (1 ≤ rd l0 0 ∧ rd l0 0 ≤ 16)) :
    Calls Try.prog 50 #[.slice A0 l0.length c0] w fun e w' => ∃ v0_ : Value, e = .returned (.tuple #[v0_, .int .i64 (-1)]) ∧ Kd.R k24 24 w' w.heap.size (fun _ => True) v0_ ([]) ∧ Below w.heap.size w w' := by
  have hl := Kd.C_max hr0
  have b1 : decide (l0.length < 2) = false := decide_eq_false (by omega)
  have b2 : decide ((l0.length : Int) < 2) = false := decide_eq_false (by omega)
  obtain ⟨ad, e0, hx0⟩ := Kd.at_int hr0 0 (by omega) (by omega)
  obtain ⟨y00, y01⟩ := byte_at hby 0
  obtain ⟨y10, y11⟩ := byte_at hby 1
  obtain ⟨ad', e1, hx1⟩ := Kd.at_int hr0 1 (by omega) (by omega)
  obtain rfl : ad = ad' := by rw [e0] at e1; injection e1
  subst e0
  clear e1
  replace hx0 : w.cell? ad = some (.int .u8 (rd l0 0)) := by rw [← add_nil ad]; exact hx0
  replace hx1 : w.cell? ⟨ad.block, ad.off + 1, none⟩ = some (.int .u8 (rd l0 1)) := by rw [← add_lit ad 1 (by omega)]; exact hx1
  have HX0 := Aside0.mk hx0
  clear hx0
  have HX1 := Aside0.mk hx1
  clear hx1
  have FX := Aside0.mk (YtimlccgpeoaigaaX.Fx.start w)
  clear hby
  have hx0 := HX0.out
  go_enter Try.func50, Try.ntmps50
  go_wp2_with (go_at_call 51; (with_reducible refine (spec_l01In.calls (rd l0 0) 1 16 false _ (by rw [in_tells]; exact congrArg some (decide_eq_false h1))).mono ?_); rintro e w2 ⟨rfl, b3⟩; have FX1 := Aside0.mk (FX.out.call b3.below); clear b3; clear FX; have hx0 := FX1.out.old HX0.out)
  go_ret2
  exact ⟨_, rfl, Kd.R_nil _ _ _ _ _, FX1.out.below⟩
set_option maxHeartbeats 8000000 in
set_option maxRecDepth 100000 in
theorem spec_l17Block.C (A0 : Option Addr) (c0 : Nat) (l0 : List Int) (w : World) (hr0 : Kd.C (Kd.int .u8) w A0 l0.length l0) (hc0 : l0.length ≤ c0) (hby : ∀ x ∈ l0, 0 ≤ x ∧ x ≤ 255) (h0 : 2 ≤ l0.length) (h1 : 1 ≤ rd l0 0 ∧ rd l0 0 ≤ 16) (h2 : (l0.length : Int) < 2 + rd l0 1 + 2) :
    Calls Try.prog 50 #[.slice A0 l0.length c0] w fun e w' => ∃ v0_ : Value, e = .returned (.tuple #[v0_, .int .i64 (-1)]) ∧ Kd.R k24 24 w' w.heap.size (fun _ => True) v0_ ([]) ∧ Below w.heap.size w w' := by
  have hl := Kd.C_max hr0
  have b1 : decide (l0.length < 2) = false := decide_eq_false (by omega)
  have b2 : decide ((l0.length : Int) < 2) = false := decide_eq_false (by omega)
  obtain ⟨ad, e0, hx0⟩ := Kd.at_int hr0 0 (by omega) (by omega)
  obtain ⟨y00, y01⟩ := byte_at hby 0
  obtain ⟨y10, y11⟩ := byte_at hby 1
  obtain ⟨ad', e1, hx1⟩ := Kd.at_int hr0 1 (by omega) (by omega)
  obtain rfl : ad = ad' := by rw [e0] at e1; injection e1
  subst e0
  clear e1
  replace hx0 : w.cell? ad = some (.int .u8 (rd l0 0)) := by rw [← add_nil ad]; exact hx0
  replace hx1 : w.cell? ⟨ad.block, ad.off + 1, none⟩ = some (.int .u8 (rd l0 1)) := by rw [← add_lit ad 1 (by omega)]; exact hx1
  have HX0 := Aside0.mk hx0
  clear hx0
  have HX1 := Aside0.mk hx1
  clear hx1
  have FX := Aside0.mk (YtimlccgpeoaigaaX.Fx.start w)
  clear hby
  have hx0 := HX0.out
  have hx1 := HX1.out
  have q1 : decide ((l0.length : Int) < 2 + rd l0 1 + 2) = true := decide_eq_true h2
  clear h2
  go_enter Try.func50, Try.ntmps50
  go_wp2_with (go_at_call 51; (with_reducible refine (spec_l01In.calls (rd l0 0) 1 16 true _ (by rw [in_tells]; exact congrArg some (decide_eq_true h1))).mono ?_); rintro e w2 ⟨rfl, b3⟩; have FX1 := Aside0.mk (FX.out.call b3.below); clear b3; clear FX; have hx0 := FX1.out.old HX0.out; have hx1 := FX1.out.old HX1.out)
  go_quiet (fail)
  refine YtimlccgpeoaigaaV.gen_then (fun W' => YtimlccgpeoaigaaX.Fx w W' []) (FX1.out.drewN _) ?_
  intro w5 q6
  have FX4 := Aside0.mk q6
  clear q6 FX1
  clear hx0 hx1
  have hx0 := FX4.out.old HX0.out
  have hx1 := FX4.out.old HX1.out
  go_wp2
  go_ret2
  exact ⟨_, rfl, Kd.R_nil _ _ _ _ _, FX4.out.below⟩
set_option maxHeartbeats 8000000 in
set_option maxRecDepth 100000 in
theorem spec_l17Block.D (A0 : Option Addr) (c0 : Nat) (l0 : List Int) (w : World) (hr0 : Kd.C (Kd.int .u8) w A0 l0.length l0) (hc0 : l0.length ≤ c0) (hby : ∀ x ∈ l0, 0 ≤ x ∧ x ≤ 255) (h0 : 2 ≤ l0.length) (h1 : 1 ≤ rd l0 0 ∧ rd l0 0 ≤ 16) (h2 : 2 + rd l0 1 + 2 ≤ (l0.length : Int)) (k : Nat) (s : Int) (tk : List Int) (htk : tk = (l0.take (2 + rd l0 1).toNat)) (hs : spec_SumBytes.f k tk = some s) (hne : s ≠ 256 * rd l0 (2 + rd l0 1) + rd l0 (2 + rd l0 1 + 1)) :
    Calls Try.prog 50 #[.slice A0 l0.length c0] w fun e w' => ∃ v0_ : Value, e = .returned (.tuple #[v0_, .int .i64 (-1)]) ∧ Kd.R k24 24 w' w.heap.size (fun _ => True) v0_ ([]) ∧ Below w.heap.size w w' := by
  have hl := Kd.C_max hr0
  have b1 : decide (l0.length < 2) = false := decide_eq_false (by omega)
  have b2 : decide ((l0.length : Int) < 2) = false := decide_eq_false (by omega)
  obtain ⟨ad, e0, hx0⟩ := Kd.at_int hr0 0 (by omega) (by omega)
  obtain ⟨y00, y01⟩ := byte_at hby 0
  obtain ⟨y10, y11⟩ := byte_at hby 1
  obtain ⟨ad', e1, hx1⟩ := Kd.at_int hr0 1 (by omega) (by omega)
  obtain rfl : ad = ad' := by rw [e0] at e1; injection e1
  subst e0
  clear e1
  replace hx0 : w.cell? ad = some (.int .u8 (rd l0 0)) := by rw [← add_nil ad]; exact hx0
  replace hx1 : w.cell? ⟨ad.block, ad.off + 1, none⟩ = some (.int .u8 (rd l0 1)) := by rw [← add_lit ad 1 (by omega)]; exact hx1
  have HX0 := Aside0.mk hx0
  clear hx0
  have HX1 := Aside0.mk hx1
  clear hx1
  have FX := Aside0.mk (YtimlccgpeoaigaaX.Fx.start w)
  obtain ⟨y20, y21⟩ := byte_at hby (2 + rd l0 1)
  obtain ⟨y30, y31⟩ := byte_at hby (2 + rd l0 1 + 1)
  obtain ⟨i5, hi5, hz5⟩ := Option.map_eq_some_iff.1 info5
  simp only [Prod.mk.injEq] at hz5
  obtain ⟨_, hs5, _⟩ := hz5
  obtain ⟨hsl, hC, hle⟩ := print_take_int (k := .u8) (P := Try.prog) 22 5 Try.underlying22 hi5 hs5 (some ad) c0 l0 (2 + rd l0 1) (by omega) (by omega) hc0
  clear hi5 hs5
  rw [← htk] at hsl hC hle
  clear htk
  obtain ⟨ad2, e2, hx2⟩ := Kd.at_int hr0 (2 + rd l0 1) (by omega) (by omega)
  obtain rfl : ad = ad2 := by injection e2
  clear e2
  obtain ⟨ad2, e2, hx3⟩ := Kd.at_int hr0 (2 + rd l0 1 + 1) (by omega) (by omega)
  obtain rfl : ad = ad2 := by injection e2
  clear e2
  replace hC : Kd.C (Kd.int .u8) w (some ad) tk.length tk := Kd.C_of_reads (h1 := fun _ => rfl) (readsInt_of.1 (hC w (readsInt_of.2 (Kd.reads_of_C hr0))))
  have HX2 := Aside0.mk hx2
  clear hx2
  have HX3 := Aside0.mk hx3
  clear hx3
  have HC := Aside0.mk hC
  clear hC
  have HLE := Aside0.mk hle
  clear hle
  clear hr0
  have hx0 := HX0.out
  have hx1 := HX1.out
  have hx2 := HX2.out
  have hx3 := HX3.out
  have q1 : decide ((l0.length : Int) < 2 + rd l0 1 + 2) = false := decide_eq_false (by omega)
  have HS := Aside0.mk hs
  clear hs hby
  have q2 : (s != 256 * rd l0 (2 + rd l0 1) + rd l0 (2 + rd l0 1 + 1)) = true := bne_iff_ne.mpr hne
  clear hne
  go_enter Try.func50, Try.ntmps50
  go_wp2_with (go_at_call 51; (with_reducible refine (spec_l01In.calls (rd l0 0) 1 16 true _ (by rw [in_tells]; exact congrArg some (decide_eq_true h1))).mono ?_); rintro e w2 ⟨rfl, b3⟩; have FX1 := Aside0.mk (FX.out.call b3.below); clear b3; clear FX; have hx0 := FX1.out.old HX0.out; have hx1 := FX1.out.old HX1.out; have hx2 := FX1.out.old HX2.out; have hx3 := FX1.out.old HX3.out)
  go_quiet ((go_at_call 43; exact Calls.quiet_of ((spec_SumBytes.calls k _ _ tk s _ (Kd.C_drewN (FX1.out.oldC HC.out) _) HLE.out HS.out).mono fun e w' h => ⟨h.1, h.2.out⟩)))
  refine YtimlccgpeoaigaaV.gen_then (fun W' => YtimlccgpeoaigaaX.Fx w W' []) (FX1.out.drewN _) ?_
  intro w5 q6
  have FX4 := Aside0.mk q6
  clear q6 FX1
  clear hx0 hx1 hx2 hx3
  have hx0 := FX4.out.old HX0.out
  have hx1 := FX4.out.old HX1.out
  have hx2 := FX4.out.old HX2.out
  have hx3 := FX4.out.old HX3.out
  go_wp2
  go_ret2
  exact ⟨_, rfl, Kd.R_nil _ _ _ _ _, FX4.out.below⟩
set_option maxHeartbeats 8000000 in
set_option maxRecDepth 100000 in
theorem spec_l17Block.E (A0 : Option Addr) (c0 : Nat) (l0 : List Int) (w : World) (hr0 : Kd.C (Kd.int .u8) w A0 l0.length l0) (hc0 : l0.length ≤ c0) (hby : ∀ x ∈ l0, 0 ≤ x ∧ x ≤ 255) (h0 : 2 ≤ l0.length) (h1 : 1 ≤ rd l0 0 ∧ rd l0 0 ≤ 16) (h2 : 2 + rd l0 1 + 2 ≤ (l0.length : Int)) (k : Nat) (s : Int) (tk : List Int) (htk : tk = (l0.take (2 + rd l0 1).toNat)) (hs : spec_SumBytes.f k tk = some s) (he : s = 256 * rd l0 (2 + rd l0 1) + rd l0 (2 + rd l0 1 + 1)) (r1 : List S24) (r2 : Int) (hres : blockEnd (readOps (rd l0 0).toNat tk 2 []) (2 + rd l0 1) = (r1, r2)) :
    Calls Try.prog 50 #[.slice A0 l0.length c0] w fun e w' => ∃ v0_ : Value, e = .returned (.tuple #[v0_, .int .i64 (r2)]) ∧ Kd.R k24 24 w' w.heap.size (fun _ => True) v0_ (r1) ∧ Below w.heap.size w w' := by
  have hl := Kd.C_max hr0
  have b1 : decide (l0.length < 2) = false := decide_eq_false (by omega)
  have b2 : decide ((l0.length : Int) < 2) = false := decide_eq_false (by omega)
  obtain ⟨ad, e0, hx0⟩ := Kd.at_int hr0 0 (by omega) (by omega)
  obtain ⟨y00, y01⟩ := byte_at hby 0
  obtain ⟨y10, y11⟩ := byte_at hby 1
  obtain ⟨ad', e1, hx1⟩ := Kd.at_int hr0 1 (by omega) (by omega)
  obtain rfl : ad = ad' := by rw [e0] at e1; injection e1
  subst e0
  clear e1
  replace hx0 : w.cell? ad = some (.int .u8 (rd l0 0)) := by rw [← add_nil ad]; exact hx0
  replace hx1 : w.cell? ⟨ad.block, ad.off + 1, none⟩ = some (.int .u8 (rd l0 1)) := by rw [← add_lit ad 1 (by omega)]; exact hx1
  have HX0 := Aside0.mk hx0
  clear hx0
  have HX1 := Aside0.mk hx1
  clear hx1
  have FX := Aside0.mk (YtimlccgpeoaigaaX.Fx.start w)
  obtain ⟨y20, y21⟩ := byte_at hby (2 + rd l0 1)
  obtain ⟨y30, y31⟩ := byte_at hby (2 + rd l0 1 + 1)
  obtain ⟨i5, hi5, hz5⟩ := Option.map_eq_some_iff.1 info5
  simp only [Prod.mk.injEq] at hz5
  obtain ⟨_, hs5, _⟩ := hz5
  obtain ⟨hsl, hC, hle⟩ := print_take_int (k := .u8) (P := Try.prog) 22 5 Try.underlying22 hi5 hs5 (some ad) c0 l0 (2 + rd l0 1) (by omega) (by omega) hc0
  clear hi5 hs5
  rw [← htk] at hsl hC hle
  clear htk
  obtain ⟨ad2, e2, hx2⟩ := Kd.at_int hr0 (2 + rd l0 1) (by omega) (by omega)
  obtain rfl : ad = ad2 := by injection e2
  clear e2
  obtain ⟨ad2, e2, hx3⟩ := Kd.at_int hr0 (2 + rd l0 1 + 1) (by omega) (by omega)
  obtain rfl : ad = ad2 := by injection e2
  clear e2
  replace hC : Kd.C (Kd.int .u8) w (some ad) tk.length tk := Kd.C_of_reads (h1 := fun _ => rfl) (readsInt_of.1 (hC w (readsInt_of.2 (Kd.reads_of_C hr0))))
  have HX2 := Aside0.mk hx2
  clear hx2
  have HX3 := Aside0.mk hx3
  clear hx3
  have HC := Aside0.mk hC
  clear hC
  have HLE := Aside0.mk hle
  clear hle
  clear hr0
  have hx0 := HX0.out
  have hx1 := HX1.out
  have hx2 := HX2.out
  have hx3 := HX3.out
  have q1 : decide ((l0.length : Int) < 2 + rd l0 1 + 2) = false := decide_eq_false (by omega)
  have HS := Aside0.mk hs
  clear hs hby
  have q2 : (s != 256 * rd l0 (2 + rd l0 1) + rd l0 (2 + rd l0 1 + 1)) = false := bne_eq_false_iff_eq.mpr he
  clear he
  have HE := Aside0.mk hres
  clear hres
  go_enter Try.func50, Try.ntmps50
  go_wp2_with (go_at_call 51; (with_reducible refine (spec_l01In.calls (rd l0 0) 1 16 true _ (by rw [in_tells]; exact congrArg some (decide_eq_true h1))).mono ?_); rintro e w2 ⟨rfl, b3⟩; have FX1 := Aside0.mk (FX.out.call b3.below); clear b3; clear FX; have hx0 := FX1.out.old HX0.out; have hx1 := FX1.out.old HX1.out; have hx2 := FX1.out.old HX2.out; have hx3 := FX1.out.old HX3.out)
  go_quiet ((go_at_call 43; exact Calls.quiet_of ((spec_SumBytes.calls k _ _ tk s _ (Kd.C_drewN (FX1.out.oldC HC.out) _) HLE.out HS.out).mono fun e w' h => ⟨h.1, h.2.out⟩)))
  refine YtimlccgpeoaigaaV.gen_then (fun W' => YtimlccgpeoaigaaX.Fx w W' []) (FX1.out.drewN _) ?_
  intro w5 q6
  have FX4 := Aside0.mk q6
  clear q6 FX1
  clear hx0 hx1 hx2 hx3
  have hx0 := FX4.out.old HX0.out
  have hx1 := FX4.out.old HX1.out
  have hx2 := FX4.out.old HX2.out
  have hx3 := FX4.out.old HX3.out
  go_wp2_with ((with_reducible refine gate_dst (N := 51) rfl ?_); refine Kd.R_lit k24 _ 24 ?hg (N := 51) ?hd (xs := ([] : List S24)) (inner := []) (ok := fun _ => True) (okp := fun _ => True) ?hr ?hp (fun _ hk => hk) trivial (Below.refl _ _) (Nat.le_refl _) (by simp) ?_; (case hd => rfl); (case hg => rfl); (case hr => first | (go_simp; done) | (go_simp; rfl)); (case hp => exact (Reps.none _ _)); intro v5 w8 h11 b9 hg_ hn_; clear hg_ hn_; obtain ⟨S10, q12⟩ := FX4.out.laid h11 b9; have FX7 := Aside0.mk q12; clear q12 h11 b9; clear FX4; clear hx0 hx1 hx2 hx3; have hx0 := FX7.out.old HX0.out; have hx1 := FX7.out.old HX1.out; have hx2 := FX7.out.old HX2.out; have hx3 := FX7.out.old HX3.out)
  go_loopg [5, 6, 7] (rd l0 0).toNat (fun gg v5 v6 v7 wr => ∃ (i a : Int) (xs : List S24) (S : Nat → Prop), 0 ≤ i ∧ i ≤ rd l0 0 ∧ Aside0 (rd l0 0 - i ≤ gg) ∧ v7 = .int .i64 i ∧ v6 = .int .i64 a ∧ Aside0 ((xs.length : Int) ≤ i) ∧ Aside0 (blockEnd (readOps (rd l0 0 - i).toNat tk a xs) (2 + rd l0 1) = (r1, r2)) ∧ Aside0 (YtimlccgpeoaigaaX.Fx w wr [YtimlccgpeoaigaaX.row k24 24 w.heap.size S v5 xs]))
  case atStart => exact ⟨0, 2, [], S10, by omega, by omega, ⟨by omega⟩, rfl, rfl, ⟨by simp⟩, ⟨by rw [Int.sub_zero]; exact HE.out⟩, FX7⟩
  case round =>
    clear HE FX7 hx0 hx1 hx2 hx3
    obtain ⟨i, a, xs, S, i0, i1, hg, rfl, rfl, hlen, HE, FX⟩ := hrel
    have hx0 := FX.out.old HX0.out
    have hx2 := FX.out.old HX2.out
    have hx3 := FX.out.old HX3.out
    by_cases hlt : i < rd l0 0
    · obtain ⟨u1, u2, u3, u4, hu⟩ : ∃ u1 u2 u3 u4, unpack tk a = (u1, u2, u3, u4) := ⟨_, _, _, _, rfl⟩
      have HU := Aside0.mk hu
      have HU2 : Aside0 (spec_UnpackOp.f tk a = some (u1, u2, u3, u4)) := ⟨congrArg some hu⟩
      clear hu
      have he := HE.out
      rw [show (rd l0 0 - i).toNat = (rd l0 0 - (i + 1)).toNat + 1 by omega] at he
      by_cases hn : u4 < 0
      · rw [readOps_fail HU.out hn] at he
        have q3 : decide (u4 < 0) = true := decide_eq_true hn
        clear hn
        obtain ⟨rfl, rfl⟩ := Prod.mk.inj he
        clear he
        go_wp2_with (first | (go_at_call 10; (with_reducible refine (spec_UnpackOp.calls _ _ tk a u1 u2 u3 u4 _ (FX.out.oldC HC.out) HLE.out HU2.out).mono ?_); rintro e w2 ⟨rfl, b3⟩; have FX1 := Aside0.mk (FX.out.call b3); clear b3; clear FX; clear hx0 hx2 hx3; have hx0 := FX1.out.old HX0.out; have hx2 := FX1.out.old HX2.out; have hx3 := FX1.out.old HX3.out) | ((with_reducible refine gate_dst (N := 8) rfl ?_); refine box_event ?hg (N := 8) ?hd (cs := #[.int .i64 0, .int .i64 0, .int .i64 0]) (t := 24) ?hr ?_; (case hd => rfl); (case hg => rfl); (case hr => first | (go_simp; done) | (go_simp; rfl)); intro g8 e6 w5 k7 b8; have FX4 := Aside0.mk (FX1.out.alloc e6 k7 b8); clear e6 k7 b8; clear FX1; clear hx0 hx2 hx3; have hcg8_0 := FX4.out.cell 0 0 rfl rfl; have hfg8_0 := FX4.out.free 0 0 rfl; have hcg8_1 := FX4.out.cell 0 1 rfl rfl; have hfg8_1 := FX4.out.free 0 1 rfl; have hcg8_2 := FX4.out.cell 0 2 rfl rfl; have hfg8_2 := FX4.out.free 0 2 rfl; have hx0 := FX4.out.old HX0.out; have hx2 := FX4.out.old HX2.out; have hx3 := FX4.out.old HX3.out) | ((with_reducible refine gate_store (t := 24) (p := 8) rfl ?_); refine store_event (t := 24) (p := 8) (v := ?vo_w10) (w1 := (((w5.setCell ⟨g8, 0, none⟩ (.int .i64 u1)).setCell ⟨g8, 1, none⟩ (.int .i64 u2)).setCell ⟨g8, 2, none⟩ (.int .i64 u3))) ?hg ?ho ?hn ?hr ?_; (case ho => rfl); (case hg => rfl); (case hn => rfl); (case hr => first | (go_simp; done) | (go_simp; rfl)); intro w10 e11; have FX9 : Aside0 (YtimlccgpeoaigaaX.Fx w w10 [YtimlccgpeoaigaaX.blk g8 24 #[.int .i64 u1, .int .i64 u2, .int .i64 u3], YtimlccgpeoaigaaX.row k24 24 w.heap.size S u5 (xs)]) := ⟨by rw [e11]; exact (((FX4.out.store 0 rfl 0 (.int .i64 u1) #[.int .i64 u1, .int .i64 0, .int .i64 0] rfl).store 0 rfl 1 (.int .i64 u2) #[.int .i64 u1, .int .i64 u2, .int .i64 0] rfl).store 0 rfl 2 (.int .i64 u3) #[.int .i64 u1, .int .i64 u2, .int .i64 u3] rfl)⟩; clear e11; clear FX4; clear hcg8_0 hfg8_0 hcg8_1 hfg8_1 hcg8_2 hfg8_2 hx0 hx2 hx3; have hcg8_0 := FX9.out.cell 0 0 rfl rfl; have hfg8_0 := FX9.out.free 0 0 rfl; have hcg8_1 := FX9.out.cell 0 1 rfl rfl; have hfg8_1 := FX9.out.free 0 1 rfl; have hcg8_2 := FX9.out.cell 0 2 rfl rfl; have hfg8_2 := FX9.out.free 0 2 rfl; have hx0 := FX9.out.old HX0.out; have hx2 := FX9.out.old HX2.out; have hx3 := FX9.out.old HX3.out))
        go_ret2
        exact ⟨_, rfl, Kd.R_nil _ _ _ _ _, FX9.out.below⟩
      · rw [readOps_step HU.out hn] at he
        have q3 : decide (u4 < 0) = false := decide_eq_false hn
        clear hn
        have HE2 := Aside0.mk he
        clear he HE
        go_wp2_with (first | (go_at_call 10; (with_reducible refine (spec_UnpackOp.calls _ _ tk a u1 u2 u3 u4 _ (FX.out.oldC HC.out) HLE.out HU2.out).mono ?_); rintro e w13 ⟨rfl, b14⟩; have FX12 := Aside0.mk (FX.out.call b14); clear b14; clear FX; clear hx0 hx2 hx3; have hx0 := FX12.out.old HX0.out; have hx2 := FX12.out.old HX2.out; have hx3 := FX12.out.old HX3.out) | ((with_reducible refine gate_dst (N := 8) rfl ?_); refine box_event ?hg (N := 8) ?hd (cs := #[.int .i64 0, .int .i64 0, .int .i64 0]) (t := 24) ?hr ?_; (case hd => rfl); (case hg => rfl); (case hr => first | (go_simp; done) | (go_simp; rfl)); intro g8 e17 w16 k18 b19; have FX15 := Aside0.mk (FX12.out.alloc e17 k18 b19); clear e17 k18 b19; clear FX12; clear hx0 hx2 hx3; have hcg8_0 := FX15.out.cell 0 0 rfl rfl; have hfg8_0 := FX15.out.free 0 0 rfl; have hcg8_1 := FX15.out.cell 0 1 rfl rfl; have hfg8_1 := FX15.out.free 0 1 rfl; have hcg8_2 := FX15.out.cell 0 2 rfl rfl; have hfg8_2 := FX15.out.free 0 2 rfl; have hx0 := FX15.out.old HX0.out; have hx2 := FX15.out.old HX2.out; have hx3 := FX15.out.old HX3.out) | ((with_reducible refine gate_store (t := 24) (p := 8) rfl ?_); refine store_event (t := 24) (p := 8) (v := ?vo_w21) (w1 := (((w16.setCell ⟨g8, 0, none⟩ (.int .i64 u1)).setCell ⟨g8, 1, none⟩ (.int .i64 u2)).setCell ⟨g8, 2, none⟩ (.int .i64 u3))) ?hg ?ho ?hn ?hr ?_; (case ho => rfl); (case hg => rfl); (case hn => rfl); (case hr => first | (go_simp; done) | (go_simp; rfl)); intro w21 e22; have FX20 : Aside0 (YtimlccgpeoaigaaX.Fx w w21 [YtimlccgpeoaigaaX.blk g8 24 #[.int .i64 u1, .int .i64 u2, .int .i64 u3], YtimlccgpeoaigaaX.row k24 24 w.heap.size S u5 (xs)]) := ⟨by rw [e22]; exact (((FX15.out.store 0 rfl 0 (.int .i64 u1) #[.int .i64 u1, .int .i64 0, .int .i64 0] rfl).store 0 rfl 1 (.int .i64 u2) #[.int .i64 u1, .int .i64 u2, .int .i64 0] rfl).store 0 rfl 2 (.int .i64 u3) #[.int .i64 u1, .int .i64 u2, .int .i64 u3] rfl)⟩; clear e22; clear FX15; clear hcg8_0 hfg8_0 hcg8_1 hfg8_1 hcg8_2 hfg8_2 hx0 hx2 hx3; have hcg8_0 := FX20.out.cell 0 0 rfl rfl; have hfg8_0 := FX20.out.free 0 0 rfl; have hcg8_1 := FX20.out.cell 0 1 rfl rfl; have hfg8_1 := FX20.out.free 0 1 rfl; have hcg8_2 := FX20.out.cell 0 2 rfl rfl; have hfg8_2 := FX20.out.free 0 2 rfl; have hx0 := FX20.out.old HX0.out; have hx2 := FX20.out.old HX2.out; have hx3 := FX20.out.old HX3.out) | ((with_reducible refine gate_builtin (b := .append) (xs := #[.tmp 70, .tmp 72]) rfl ?_); at_builtin; refine Kd.R_append k24 (w0 := w) w.heap.size rfl (.tmp 70) (.tmp 72) 35 24 (.agg #[(.int .i64 0), (.int .i64 0), (.int .i64 0)]) 24 rfl Try.underlying35 info24 rfl (by decide) (by omega) u5 (xs) (⟨u1, u2, u3⟩ : S24) [.int .i64 u1, .int .i64 u2, .int .i64 u3] _ (fun _ => False) (by first | rfl | (go_simp; done) | (go_simp; rfl)) (by first | rfl | (go_simp; done) | (go_simp; rfl)) ?aP (fun _ hk => hk.elim) ?aF (FX20.out.rowFor 1 rfl) FX20.out.below FX20.out.below.size ?aL ?_; (case aP => exact k24_mkM _ _ _ (⟨u1, u2, u3⟩ : S24)); (case aF => exact fun _ hk => .inr hk); (case aL => have := hlen.out; omega); intro v5' w24 h27 hb_ g29 hn_; obtain ⟨S26, q28⟩ := FX20.out.append 1 rfl h27 g29; have FX23 := Aside0.mk q28; clear q28 h27 hb_ g29 hn_; clear FX20; clear hcg8_0 hfg8_0 hcg8_1 hfg8_1 hcg8_2 hfg8_2 hx0 hx2 hx3; have hcg8_0 := FX23.out.cell 0 0 rfl rfl; have hfg8_0 := FX23.out.free 0 0 rfl; have hcg8_1 := FX23.out.cell 0 1 rfl rfl; have hfg8_1 := FX23.out.free 0 1 rfl; have hcg8_2 := FX23.out.cell 0 2 rfl rfl; have hfg8_2 := FX23.out.free 0 2 rfl; have hx0 := FX23.out.old HX0.out; have hx2 := FX23.out.old HX2.out; have hx3 := FX23.out.old HX3.out))
        go_roundg (rd l0 0 - (i + 1)).toNat
        case measure => have := hg.out; omega
        case rel => exact ⟨i + 1, u4, _, _, by omega, by omega, ⟨by omega⟩, by go_num, rfl, ⟨by have := hlen.out; simp; omega⟩, HE2, ⟨(FX23.out.pick [1] (by decide) rfl (fun i j hj => by match i, hj with | 0, hj => cases hj; rfl))⟩⟩
    · have hi : i = rd l0 0 := by omega
      subst hi
      have he := HE.out
      rw [Int.sub_self] at he
      have he' : blockEnd (some (xs, a)) (2 + rd l0 1) = (r1, r2) := he
      clear he HE
      unfold blockEnd at he'
      simp only at he'
      by_cases hn : a = 2 + rd l0 1
      · rw [if_pos hn] at he'
        obtain ⟨rfl, rfl⟩ := Prod.mk.inj he'
        have q3 : (a != 2 + rd l0 1) = false := bne_eq_false_iff_eq.mpr hn
        clear hn he'
        go_wp2
        go_ret2
        exact ⟨_, rfl, FX.out.rowTrue 0 rfl, FX.out.below⟩
      · rw [if_neg hn] at he'
        obtain ⟨rfl, rfl⟩ := Prod.mk.inj he'
        have q3 : (a != 2 + rd l0 1) = true := bne_iff_ne.mpr hn
        clear hn he'
        go_wp2
        go_ret2
        exact ⟨_, rfl, Kd.R_nil _ _ _ _ _, FX.out.below⟩
/-- The operations of the block at the start of l and how many bytes it has; -1 where there is none. -/
def blockS (l : List Int) : List S24 × Int :=
  if l.length < 2 then ([], -1) else if ¬ (1 ≤ rd l 0 ∧ rd l 0 ≤ 16) then ([], -1) else if (l.length : Int) < 2 + rd l 1 + 2 then ([], -1) else
  if sumOf (l.take (2 + rd l 1).toNat) ≠ 256 * rd l (2 + rd l 1) + rd l (2 + rd l 1 + 1) then ([], -1) else blockEnd (readOps (rd l 0).toNat (l.take (2 + rd l 1).toNat) 2 []) (2 + rd l 1)
def spec_l17Block.f (l0 : List Int) : Option (List S24 × Int) := if ∀ x ∈ l0, 0 ≤ x ∧ x ≤ 255 then some (blockS l0) else none
theorem spec_l17Block.calls (A0 : Option Addr) (c0 : Nat) (l0 : List Int) (r1 : List S24) (r2 : Int) (w : World) (hr0 : Kd.C (Kd.int .u8) w A0 l0.length l0) (hc0 : l0.length ≤ c0) (h : spec_l17Block.f l0 = some (r1, r2)) :
    Calls Try.prog 50 #[.slice A0 l0.length c0] w fun e w' => ∃ v0_ : Value, e = .returned (.tuple #[v0_, .int .i64 (r2)]) ∧ Kd.R k24 24 w' w.heap.size (fun _ => True) v0_ (r1) ∧ Below w.heap.size w w' := by
  unfold spec_l17Block.f at h
  by_cases hby : ∀ x ∈ l0, 0 ≤ x ∧ x ≤ 255
  · rw [if_pos hby] at h
    have h' := Option.some.inj h
    clear h
    unfold blockS at h'
    by_cases h0 : l0.length < 2
    · rw [if_pos h0] at h'
      obtain ⟨rfl, rfl⟩ := Prod.mk.inj h'
      exact spec_l17Block.A A0 c0 l0 w hr0 hc0 hby h0
    rw [if_neg h0] at h'
    by_cases h1 : ¬ (1 ≤ rd l0 0 ∧ rd l0 0 ≤ 16)
    · rw [if_pos h1] at h'
      obtain ⟨rfl, rfl⟩ := Prod.mk.inj h'
      exact spec_l17Block.B A0 c0 l0 w hr0 hc0 hby (by omega) h1
    rw [if_neg h1] at h'
    replace h1 := Decidable.not_not.1 h1
    by_cases h2 : (l0.length : Int) < 2 + rd l0 1 + 2
    · rw [if_pos h2] at h'
      obtain ⟨rfl, rfl⟩ := Prod.mk.inj h'
      exact spec_l17Block.C A0 c0 l0 w hr0 hc0 hby (by omega) h1 h2
    rw [if_neg h2] at h'
    have hs := specSum_tells (l0.take (2 + rd l0 1).toNat) (Nat.le_trans (by rw [List.length_take]; exact Nat.min_le_right _ _) (Kd.C_max hr0))
    by_cases h3 : sumOf (l0.take (2 + rd l0 1).toNat) ≠ 256 * rd l0 (2 + rd l0 1) + rd l0 (2 + rd l0 1 + 1)
    · rw [if_pos h3] at h'
      obtain ⟨rfl, rfl⟩ := Prod.mk.inj h'
      exact spec_l17Block.D A0 c0 l0 w hr0 hc0 hby (by omega) h1 (by omega) _ _ _ rfl hs h3
    · rw [if_neg h3] at h'
      exact spec_l17Block.E A0 c0 l0 w hr0 hc0 hby (by omega) h1 (by omega) _ _ _ rfl hs (Decidable.not_not.1 h3) r1 r2 h'
  · rw [if_neg hby] at h
    cases h

end Go.Proofs.Ytimlccgpeoaigaa.PFnExactLongest
