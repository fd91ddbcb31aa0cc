-- Written by a program of this session (wip/tools/mkprint2.py over the kit's print); texts of functions that the print does not take are the session's own (ext.py).
import Derived.Test.YtimlccgpeoaigaaPFnExactUnpackOpsy0
import Derived.Test.YtimlccgpeoaigaaPFnExactUnpackOpsy2
import Derived.Test.YtimlccgpeoaigaaPFnExactUnpackOpsy6
namespace Go.Proofs.Ytimlccgpeoaigaa.PFnExactUnpackOps
open Go.RowKit Go.Proofs.YtimlccgpeoaigaaW.PrintWords Go.Proofs.YtimlccgpeoaigaaW.PrintLast Go.Proofs.YtimlccgpeoaigaaW.PrintMore
attribute [local go_sem] max2_int min2_int max_two min_two max_three min_three max_four min_four   -- for this text's walks alone
set_option linter.unusedVariables false
set_option linter.unusedSimpArgs false

/-! ### spec_PackOps: function 16 -/
mutual
def spec_PackOps.l0 : Nat → List (S24) → List Int → Int → Option (List Int × Bool)
  | 0, _, _, _ => none
  | k + 1, x0, x4, x5 => if x5 < (x0.length : Int) then (if (wrap64 (x5 + 16)) > (x0.length : Int) then (spec_PackOps.j1 k x0 x4 x5 (x0.length : Int)) else (spec_PackOps.j1 k x0 x4 x5 (wrap64 (x5 + 16)))) else (some (x4, true))
def spec_PackOps.j1 : Nat → List (S24) → List Int → Int → Int → Option (List Int × Bool)
  | 0, _, _, _, _ => none
  | k + 1, x0, x4, x5, x6 => spec_PackOps.l1 k x0 x4 x5 x6 (([] : List Int)) x5
def spec_PackOps.l1 : Nat → List (S24) → List Int → Int → Int → List Int → Int → Option (List Int × Bool)
  | 0, _, _, _, _, _, _ => none
  | k + 1, x0, x4, x5, x6, x7, x8 => if x8 < x6 then (if 0 ≤ x8 then (if x8 < (x0.length : Int) then ((spec_OpOk.f k ((rd_T24 x0 x8).f0) ((rd_T24 x0 x8).f1) ((rd_T24 x0 x8).f2)).bind fun t253 => (if t253 = true then ((spec_PackOp.f k ((rd_T24 x0 x8).f0) ((rd_T24 x0 x8).f1) ((rd_T24 x0 x8).f2)).bind fun t255 => ((spec_l01Join.f k x7 t255).bind fun t258 => (spec_PackOps.l1 k x0 x4 x5 x6 t258 (wrap64 (x8 + 1))))) else (some (([] : List Int), false)))) else (none)) else (none)) else ((spec_l01Join.f k (([(wrap64 (x6 - x5)) % 256, ((x7.length : Int)) % 256] : List Int)) x7).bind fun t264 => ((spec_SumBytes.f k t264).bind fun t267 => ((some (([(wrap64 (Int.tdiv t267 256)) % 256, (Int.tmod t267 256) % 256] : List Int) : List Int)).bind fun y268 => (if t264.length + y268.length < 140737488355328 then ((some (t264 ++ y268 : List Int)).bind fun y271 => (if (y271.length : Int) > (wrap64 (4000 - (x4.length : Int))) then (some (([] : List Int), false)) else ((spec_l01Join.f k x4 y271).bind fun t274 => (spec_PackOps.l0 k x0 t274 (wrap64 (x5 + 16)))))) else (none)))))
end
def spec_PackOps.f (k : Nat) (l0 : List (S24)) : Option (List Int × Bool) := spec_PackOps.l0 k l0 (([] : List Int)) 0
theorem spec_PackOps.mono_l : ∀ k, (∀ y0 y1 y2, LeO (spec_PackOps.l0 k y0 y1 y2) (spec_PackOps.l0 (k + 1) y0 y1 y2)) ∧ (∀ y0 y1 y2 y3, LeO (spec_PackOps.j1 k y0 y1 y2 y3) (spec_PackOps.j1 (k + 1) y0 y1 y2 y3)) ∧ (∀ y0 y1 y2 y3 y4 y5, LeO (spec_PackOps.l1 k y0 y1 y2 y3 y4 y5) (spec_PackOps.l1 (k + 1) y0 y1 y2 y3 y4 y5))
  | 0 => ⟨fun _ _ _ r h => by simp [spec_PackOps.l0] at h, fun _ _ _ _ r h => by simp [spec_PackOps.j1] at h, fun _ _ _ _ _ _ r h => by simp [spec_PackOps.l1] at h⟩
  | k + 1 => by
    obtain ⟨ih0, ih1, ih2⟩ := spec_PackOps.mono_l k
    refine ⟨?_, ?_, ?_⟩
    · intro y0 y1 y2
      unfold spec_PackOps.l0
      repeat' first
      | (with_reducible exact ih0 _ _ _)
      | (with_reducible exact ih1 _ _ _ _)
      | (with_reducible exact ih2 _ _ _ _ _ _)
      | (with_reducible exact spec_OpOk.mono _ _ _ _)
      | (with_reducible exact spec_PackOp.mono _ _ _ _)
      | (with_reducible exact spec_SumBytes.mono _ _)
      | (with_reducible exact spec_l01Join.mono _ _ _)
      | (with_reducible exact LeO.refl _)
      | (with_reducible exact LeO.none _)
      | (with_reducible refine LeO.ite ?_ ?_)
      | (with_reducible refine LeO.bind ?_ (fun _ => ?_))
      | exact ih0 _ _ _
      | exact ih1 _ _ _ _
      | exact ih2 _ _ _ _ _ _
      | exact spec_OpOk.mono _ _ _ _
      | exact spec_PackOp.mono _ _ _ _
      | exact spec_SumBytes.mono _ _
      | exact spec_l01Join.mono _ _ _
      | exact LeO.none _
      | refine LeO.ite ?_ ?_
      | refine LeO.bind ?_ (fun _ => ?_)
    · intro y0 y1 y2 y3
      unfold spec_PackOps.j1
      repeat' first
      | (with_reducible exact ih0 _ _ _)
      | (with_reducible exact ih1 _ _ _ _)
      | (with_reducible exact ih2 _ _ _ _ _ _)
      | (with_reducible exact spec_OpOk.mono _ _ _ _)
      | (with_reducible exact spec_PackOp.mono _ _ _ _)
      | (with_reducible exact spec_SumBytes.mono _ _)
      | (with_reducible exact spec_l01Join.mono _ _ _)
      | (with_reducible exact LeO.refl _)
      | (with_reducible exact LeO.none _)
      | (with_reducible refine LeO.ite ?_ ?_)
      | (with_reducible refine LeO.bind ?_ (fun _ => ?_))
      | exact ih0 _ _ _
      | exact ih1 _ _ _ _
      | exact ih2 _ _ _ _ _ _
      | exact spec_OpOk.mono _ _ _ _
      | exact spec_PackOp.mono _ _ _ _
      | exact spec_SumBytes.mono _ _
      | exact spec_l01Join.mono _ _ _
      | exact LeO.none _
      | refine LeO.ite ?_ ?_
      | refine LeO.bind ?_ (fun _ => ?_)
    · intro y0 y1 y2 y3 y4 y5
      unfold spec_PackOps.l1
      repeat' first
      | (with_reducible exact ih0 _ _ _)
      | (with_reducible exact ih1 _ _ _ _)
      | (with_reducible exact ih2 _ _ _ _ _ _)
      | (with_reducible exact spec_OpOk.mono _ _ _ _)
      | (with_reducible exact spec_PackOp.mono _ _ _ _)
      | (with_reducible exact spec_SumBytes.mono _ _)
      | (with_reducible exact spec_l01Join.mono _ _ _)
      | (with_reducible exact LeO.refl _)
      | (with_reducible exact LeO.none _)
      | (with_reducible refine LeO.ite ?_ ?_)
      | (with_reducible refine LeO.bind ?_ (fun _ => ?_))
      | exact ih0 _ _ _
      | exact ih1 _ _ _ _
      | exact ih2 _ _ _ _ _ _
      | exact spec_OpOk.mono _ _ _ _
      | exact spec_PackOp.mono _ _ _ _
      | exact spec_SumBytes.mono _ _
      | exact spec_l01Join.mono _ _ _
      | exact LeO.none _
      | refine LeO.ite ?_ ?_
      | refine LeO.bind ?_ (fun _ => ?_)
theorem spec_PackOps.mono : ∀ a0 k, LeO (spec_PackOps.f k a0) (spec_PackOps.f (k + 1) a0) := by
  intro a0 k
  obtain ⟨ih0, ih1, ih2⟩ := spec_PackOps.mono_l k
  unfold spec_PackOps.f
  repeat' first
      | (with_reducible exact ih0 _ _ _)
      | (with_reducible exact ih1 _ _ _ _)
      | (with_reducible exact ih2 _ _ _ _ _ _)
      | (with_reducible exact spec_OpOk.mono _ _ _ _)
      | (with_reducible exact spec_PackOp.mono _ _ _ _)
      | (with_reducible exact spec_SumBytes.mono _ _)
      | (with_reducible exact spec_l01Join.mono _ _ _)
      | (with_reducible exact LeO.refl _)
      | (with_reducible exact LeO.none _)
      | (with_reducible refine LeO.ite ?_ ?_)
      | (with_reducible refine LeO.bind ?_ (fun _ => ?_))
      | exact ih0 _ _ _
      | exact ih1 _ _ _ _
      | exact ih2 _ _ _ _ _ _
      | exact spec_OpOk.mono _ _ _ _
      | exact spec_PackOp.mono _ _ _ _
      | exact spec_SumBytes.mono _ _
      | exact spec_l01Join.mono _ _ _
      | exact LeO.none _
      | refine LeO.ite ?_ ?_
      | refine LeO.bind ?_ (fun _ => ?_)
set_option maxHeartbeats 8000000 in
set_option maxRecDepth 100000 in
theorem spec_PackOps.calls (k : Nat) (A0 : Option Addr) (c0 : Nat) (l0 : List (S24)) (r1 : List Int) (r2 : Bool) (w : World) (hr0 : Kd.C k24 w A0 l0.length l0) (hc0 : l0.length ≤ c0) (h : spec_PackOps.f k l0 = some (r1, r2)) :
    Calls Try.prog 16 #[.slice A0 l0.length c0] w fun e w' => ∃ v0_ : Value, e = .returned (.tuple #[v0_, .bool r2]) ∧ Kd.R (Kd.int .u8) 5 w' w.heap.size (fun _ => True) v0_ r1 ∧ Below w.heap.size w w' := by
  have hu24 := Try.underlying24
  have HR0 := Aside0.mk hr0
  have HC0 := Aside0.mk hc0
  clear hr0 hc0
  have HB := Aside0.mk (Below.refl w.heap.size w)
  have H : (spec_PackOps.l0 k l0 (([] : List Int)) 0) = some (r1, r2) := h
  clear h
  obtain ⟨y246, hy246⟩ : ∃ y_ : List Int, y_ = (([] : List Int)) := ⟨_, rfl⟩
  replace H : (spec_PackOps.l0 k l0 y246 0) = some (r1, r2) := by first | (rw [hy246]; with_reducible exact H) | (have H2_ := (Option.bind_some _ _).symm.trans H; rw [hy246]; with_reducible exact H2_) | (have H2_ := (Option.bind_some _ _).symm.trans H; with_reducible exact H2_) | with_reducible exact H | (rw [hy246]; exact H) | exact H
  have Ny246 := Aside0.mk hy246
  clear hy246
  have H' := Aside0.mk H
  clear H
  go_enter Try.func16, Try.ntmps16
  go_wp2_with (first | ((with_reducible refine gate_dst (N := 11) rfl ?_); refine Kd.R_lit (Kd.int .u8) _ 5 ?hg (N := 11) ?hd (xs := ([] : List Int)) (inner := []) (ok := fun _ => True) (okp := fun _ => True) ?hr ?hp (fun _ hk => hk) trivial (Below.refl _ _) (Nat.le_refl _) (by simp) ?_; (case hd => rfl); (case hg => rfl); (case hr => first | (go_simp; done) | (go_simp; rfl)); (case hp => exact (Reps.none _ _)); intro v247 w2 ho3 hb hg_ hnew_; clear hg_ hnew_; (first | rw [← Ny246.out] at ho3 | (simp only [Int.reduceToNat] at ho3; rw [← Ny246.out] at ho3)); have n0_ := Aside0.mk (Kd.R_lower ho3 (below_size (by repeat (first | (with_reducible first | exact HB.out | apply below_alloc | apply pw_below_drewN | apply below_drew1) | exact HB.out)))); have n1_ := Aside0.mk (below_step (by repeat (first | (with_reducible first | exact HB.out | apply below_alloc | apply pw_below_drewN | apply below_drew1) | exact HB.out)) hb); clear HB; have HO248 := n0_; have HB := n1_; clear n0_ n1_; clear hb ho3))
  go_loopg [4, 5] k (fun kq v4 v5 w' => ∃ (x4_1 : List Int) (x5_1 : Int), v5 = .int .i64 x5_1 ∧ Aside0 (spec_PackOps.l0 kq l0 x4_1 x5_1 = some (r1, r2)) ∧ Aside0 (kq ≤ k) ∧ Aside0 (Kd.R (Kd.int .u8) 5 w' w.heap.size (fun _ => True) v4 x4_1) ∧ Aside0 (Below w.heap.size w w'))
  case atStart => exact ⟨(y246), (0), (by first | rfl | (simp; done) | (simp [*]; done)), H', ⟨Nat.le_refl _⟩, ⟨by (with_reducible repeat (first | apply Kd.R_alloc | apply Kd.R_drewN | apply Kd.R_drew)); exact HO248.out⟩, ⟨by repeat (first | (with_reducible first | exact HB.out | apply below_alloc | apply pw_below_drewN | apply below_drew1) | exact HB.out)⟩⟩
  case round =>
    clear H'
    try clear c1
    try clear p2
    obtain ⟨x4_1, x5_1, rfl, HA, HK1, HO_4, HB⟩ := hrel
    cases gk with
    | zero => exact absurd HA.out (by simp [spec_PackOps.l0])
    | succ k1 =>
      have H := HA.out
      clear HA
      simp only [spec_PackOps.l0] at H
      by_cases c4 : x5_1 < (l0.length : Int)
      · rw [if_pos c4] at H
        have c4b0 : decide (x5_1 < (l0.length : Int)) = true := decide_eq_true c4
        clear c4
        have HC5 := Aside0.mk H
        clear H
        go_upto_if 23 with (fail)
        go_cut [6] (fun v6 wc => ∃ (kq : Nat) (x6_4 : Int), v6 = .int .i64 x6_4 ∧ Aside0 (spec_PackOps.j1 kq l0 x4_1 x5_1 x6_4 = some (r1, r2)) ∧ Aside0 (kq ≤ k1) ∧ Aside0 (Kd.R (Kd.int .u8) 5 wc w.heap.size (fun _ => True) u4 x4_1) ∧ Aside0 (Below w.heap.size w wc))
        case first =>
          have H := HC5.out
          clear HC5
          by_cases c6 : (wrap64 (x5_1 + 16)) > (l0.length : Int)
          · rw [if_pos c6] at H
            have c6b0 : decide ((l0.length : Int) < (wrap64 (x5_1 + 16))) = true := decide_eq_true c6
            clear c6
            (first | rw [c6b0] | (simp only [i64_w, i32_w]; rw [c6b0]) | skip)
            have H' := Aside0.mk H
            clear H
            go_wp2
            go_meet
            case rel => exact ⟨_, ((l0.length : Int)), (by first | rfl | (simp; done) | (simp [*]; done)), H', ⟨by have := HK1.out; first | omega | exact Nat.le_refl _⟩, ⟨by (with_reducible repeat (first | apply Kd.R_alloc | apply Kd.R_drewN | apply Kd.R_drew)); exact HO_4.out⟩, ⟨by repeat (first | (with_reducible first | exact HB.out | apply below_alloc | apply pw_below_drewN | apply below_drew1) | exact HB.out)⟩⟩
          · rw [if_neg c6] at H
            have c6b0 : decide ((l0.length : Int) < (wrap64 (x5_1 + 16))) = false := decide_eq_false c6
            clear c6
            (first | rw [c6b0] | (simp only [i64_w, i32_w]; rw [c6b0]) | skip)
            have H' := Aside0.mk H
            clear H
            go_wp2
            go_meet
            case rel => exact ⟨_, (wrap64 (x5_1 + 16)), (by first | rfl | (simp; done) | (simp [*]; done)), H', ⟨by have := HK1.out; first | omega | exact Nat.le_refl _⟩, ⟨by (with_reducible repeat (first | apply Kd.R_alloc | apply Kd.R_drewN | apply Kd.R_drew)); exact HO_4.out⟩, ⟨by repeat (first | (with_reducible first | exact HB.out | apply below_alloc | apply pw_below_drewN | apply below_drew1) | exact HB.out)⟩⟩
        case rest =>
          clear HC5
          try clear c1
          try clear p2
          try clear c4
          try clear c4b0
          try clear c6
          try clear c6b0
          try clear p6
          try clear p2
          obtain ⟨kq, x6_4, rfl, HA, HJ4, HO_4, HB⟩ := hcut
          cases kq with
          | zero => exact absurd HA.out (by simp [spec_PackOps.j1])
          | succ kj4 =>
            have H := HA.out
            clear HA
            simp only [spec_PackOps.j1] at H
            obtain ⟨y249, hy249⟩ : ∃ y_ : List Int, y_ = (([] : List Int)) := ⟨_, rfl⟩
            replace H : (spec_PackOps.l1 kj4 l0 x4_1 x5_1 x6_4 y249 x5_1) = some (r1, r2) := by first | (rw [hy249]; with_reducible exact H) | (have H2_ := (Option.bind_some _ _).symm.trans H; rw [hy249]; with_reducible exact H2_) | (have H2_ := (Option.bind_some _ _).symm.trans H; with_reducible exact H2_) | with_reducible exact H | (rw [hy249]; exact H) | exact H
            have Ny249 := Aside0.mk hy249
            clear hy249
            have H' := Aside0.mk H
            clear H
            go_wp2_with (first | ((with_reducible refine gate_dst (N := 26) rfl ?_); refine Kd.R_lit (Kd.int .u8) _ 5 ?hg (N := 26) ?hd (xs := ([] : List Int)) (inner := []) (ok := fun _ => True) (okp := fun _ => True) ?hr ?hp (fun _ hk => hk) trivial (Below.refl _ _) (Nat.le_refl _) (by simp) ?_; (case hd => rfl); (case hg => rfl); (case hr => first | (go_simp; done) | (go_simp; rfl)); (case hp => exact (Reps.none _ _)); intro v250 w7 ho8 hb hg_ hnew_; clear hg_ hnew_; (first | rw [← Ny249.out] at ho8 | (simp only [Int.reduceToNat] at ho8; rw [← Ny249.out] at ho8)); have n0_ := Aside0.mk (Kd.R_elder' (by (with_reducible repeat (first | apply Kd.R_alloc | apply Kd.R_drewN | apply Kd.R_drew)); exact HO_4.out) (Kd.R_base ho8) hb); have n1_ := Aside0.mk (Kd.R_lower (Kd.R_new' ho8 (Kd.R_lt (by (with_reducible repeat (first | apply Kd.R_alloc | apply Kd.R_drewN | apply Kd.R_drew)); exact HO_4.out))) (below_size (by repeat (first | (with_reducible first | exact HB.out | apply below_alloc | apply pw_below_drewN | apply below_drew1) | exact HB.out)))); have n2_ := Aside0.mk (below_step (by repeat (first | (with_reducible first | exact HB.out | apply below_alloc | apply pw_below_drewN | apply below_drew1) | exact HB.out)) hb); clear HO_4; clear HB; have HO_4 := n0_; have HO251 := n1_; have HB := n2_; clear n0_ n1_ n2_; clear hb ho8))
            go_loopg [7, 8] kj4 (fun kq v7 v8 w' => ∃ (x7_3 : List Int) (x8_3 : Int), v8 = .int .i64 x8_3 ∧ Aside0 (spec_PackOps.l1 kq l0 x4_1 x5_1 x6_4 x7_3 x8_3 = some (r1, r2)) ∧ Aside0 (kq ≤ kj4) ∧ Aside0 (Kd.R (Kd.int .u8) 5 w' w.heap.size (fun k_ => some k_ ≠ (v7 : Value).ownBlock) u4 x4_1) ∧ Aside0 (Kd.R (Kd.int .u8) 5 w' w.heap.size (fun k_ => some k_ ≠ (u4 : Value).ownBlock) v7 x7_3) ∧ Aside0 (Below w.heap.size w w'))
            case atStart => exact ⟨(y249), (x5_1), (by first | rfl | (simp; done) | (simp [*]; done)), H', ⟨Nat.le_refl _⟩, ⟨by (with_reducible repeat (first | apply Kd.R_alloc | apply Kd.R_drewN | apply Kd.R_drew)); exact Kd.R_mono HO_4.out (fun _ hk => hk.2)⟩, ⟨by (with_reducible repeat (first | apply Kd.R_alloc | apply Kd.R_drewN | apply Kd.R_drew)); exact Kd.R_mono HO251.out (fun _ hk => hk.2)⟩, ⟨by repeat (first | (with_reducible first | exact HB.out | apply below_alloc | apply pw_below_drewN | apply below_drew1) | exact HB.out)⟩⟩
            case round =>
              clear H'
              try clear c1
              try clear p2
              try clear c4
              try clear c4b0
              try clear c6
              try clear c6b0
              try clear p6
              try clear p2
              try clear p6
              obtain ⟨x7_3, x8_3, rfl, HA, HK3, HO_4, HO_7, HB⟩ := hrel
              cases gk with
              | zero => exact absurd HA.out (by simp [spec_PackOps.l1])
              | succ k3 =>
                have H := HA.out
                clear HA
                simp only [spec_PackOps.l1] at H
                by_cases c9 : x8_3 < x6_4
                · rw [if_pos c9] at H
                  have c9b0 : decide (x8_3 < x6_4) = true := decide_eq_true c9
                  clear c9
                  by_cases c10 : 0 ≤ x8_3
                  · rw [if_pos c10] at H
                    have c10b0 : decide (0 ≤ x8_3) = true := decide_eq_true c10
                    clear c10
                    by_cases c11 : x8_3 < (l0.length : Int)
                    · rw [if_pos c11] at H
                      have c11b0 : decide (x8_3 < (l0.length : Int)) = true := decide_eq_true c11
                      clear c11
                      replace H := Option.bind_eq_some_iff.mp H
                      obtain ⟨t253, A120, H⟩ := H
                      replace H : (if t253 = true then ((spec_PackOp.f k3 ((rd_T24 l0 x8_3).f0) ((rd_T24 l0 x8_3).f1) ((rd_T24 l0 x8_3).f2)).bind fun t255 => ((spec_l01Join.f k3 x7_3 t255).bind fun t258 => (spec_PackOps.l1 k3 l0 x4_1 x5_1 x6_4 t258 (wrap64 (x8_3 + 1))))) else (some (([] : List Int), false))) = some (r1, r2) := H
                      have A12 := Aside0.mk A120
                      clear A120
                      by_cases c13 : t253 = true
                      · subst c13
                        have H1 : ((spec_PackOp.f k3 ((rd_T24 l0 x8_3).f0) ((rd_T24 l0 x8_3).f1) ((rd_T24 l0 x8_3).f2)).bind fun t255 => ((spec_l01Join.f k3 x7_3 t255).bind fun t258 => (spec_PackOps.l1 k3 l0 x4_1 x5_1 x6_4 t258 (wrap64 (x8_3 + 1))))) = some (r1, r2) := by rw [if_pos rfl] at H; exact H
                        clear H
                        have H := H1
                        clear H1
                        replace H := Option.bind_eq_some_iff.mp H
                        obtain ⟨t255, A140, H⟩ := H
                        replace H : ((spec_l01Join.f k3 x7_3 t255).bind fun t258 => (spec_PackOps.l1 k3 l0 x4_1 x5_1 x6_4 t258 (wrap64 (x8_3 + 1)))) = some (r1, r2) := H
                        have A14 := Aside0.mk A140
                        clear A140
                        replace H := Option.bind_eq_some_iff.mp H
                        obtain ⟨t258, A150, H⟩ := H
                        replace H : (spec_PackOps.l1 k3 l0 x4_1 x5_1 x6_4 t258 (wrap64 (x8_3 + 1))) = some (r1, r2) := H
                        have A15 := Aside0.mk A150
                        clear A150
                        have H' := Aside0.mk H
                        clear H
                        have p252 : 0 ≤ (x8_3 : Int) := of_decide_eq_true (by first | (with_reducible assumption) | assumption)
                        have q252 : x8_3 < (l0.length : Int) := of_decide_eq_true (by first | (with_reducible assumption) | assumption)
                        obtain ⟨ad252, e252, hx252_0, hx252_1, hx252_2⟩ := at_T24 HR0.out x8_3 p252 q252
                        cases e252
                        replace hx252_0 := (HB.out.cell (World.block_lt_of_cell? w _ hx252_0)).trans hx252_0
                        replace hx252_1 := (HB.out.cell (World.block_lt_of_cell? w _ hx252_1)).trans hx252_1
                        replace hx252_2 := (HB.out.cell (World.block_lt_of_cell? w _ hx252_2)).trans hx252_2
                        replace p252 := eq_true p252
                        replace q252 := eq_true q252
                        go_wp2_with (first | ((with_reducible refine gate_callee (f := 37) rfl ?_); refine goesL_ (some 37) rfl rfl Try.func37 (by kernel_rfl) rfl #[.agg #[.int .i64 ((rd_T24 l0 x8_3).f0), .int .i64 ((rd_T24 l0 x8_3).f1), .int .i64 ((rd_T24 l0 x8_3).f2)]] rfl (by (try simp only [List.map_toArray, List.map_cons, List.map_nil]); first | done | rfl | (simp only [List.length_drop, List.length_take]; rfl)) ?_; (with_reducible refine (spec_OpOk.calls k3 ((rd_T24 l0 x8_3).f0) ((rd_T24 l0 x8_3).f1) ((rd_T24 l0 x8_3).f2) true _ A12.out).mono ?_); rintro e w16 ⟨rfl, hb⟩; refine ⟨_, rfl, ?_⟩; have n0_ := Aside0.mk (Kd.R_below (by (with_reducible repeat (first | apply Kd.R_alloc | apply Kd.R_drewN | apply Kd.R_drew)); exact HO_4.out) hb); have n1_ := Aside0.mk (Kd.R_below (by (with_reducible repeat (first | apply Kd.R_alloc | apply Kd.R_drewN | apply Kd.R_drew)); exact HO_7.out) hb); have n2_ := Aside0.mk (below_step (by repeat (first | (with_reducible first | exact HB.out | apply below_alloc | apply pw_below_drewN | apply below_drew1) | exact HB.out)) hb); clear HO_4; clear HO_7; clear HB; have HO_4 := n0_; have HO_7 := n1_; have HB := n2_; clear n0_ n1_ n2_; (try clear hb); (try clear hb2); (try clear hk); (try clear hi); have p254 : 0 ≤ (x8_3 : Int) := of_decide_eq_true (by first | (with_reducible assumption) | assumption); have q254 : x8_3 < (l0.length : Int) := of_decide_eq_true (by first | (with_reducible assumption) | assumption); obtain ⟨ad254, e254, hx254_0, hx254_1, hx254_2⟩ := at_T24 HR0.out x8_3 p254 q254; obtain rfl : ad252 = ad254 := (by injection e254); replace hx254_0 := (HB.out.cell (World.block_lt_of_cell? w _ hx254_0)).trans hx254_0; replace hx254_1 := (HB.out.cell (World.block_lt_of_cell? w _ hx254_1)).trans hx254_1; replace hx254_2 := (HB.out.cell (World.block_lt_of_cell? w _ hx254_2)).trans hx254_2; replace p254 := eq_true p254; replace q254 := eq_true q254) | ((with_reducible refine gate_callee (f := 42) rfl ?_); refine goesL_ (some 44) rfl rfl Try.func42 (by kernel_rfl) rfl #[.agg #[.int .i64 ((rd_T24 l0 x8_3).f0), .int .i64 ((rd_T24 l0 x8_3).f1), .int .i64 ((rd_T24 l0 x8_3).f2)]] rfl (by (try simp only [List.map_toArray, List.map_cons, List.map_nil]); first | done | rfl | (simp only [List.length_drop, List.length_take]; rfl)) ?_; (with_reducible refine (spec_PackOp.calls k3 ((rd_T24 l0 x8_3).f0) ((rd_T24 l0 x8_3).f1) ((rd_T24 l0 x8_3).f2) t255 _ A14.out).mono ?_); rintro e w17 ⟨v256, rfl, ho0, hb⟩; refine ⟨_, rfl, ?_⟩; have n0_ := Aside0.mk (Kd.R_elder' (by (with_reducible repeat (first | apply Kd.R_alloc | apply Kd.R_drewN | apply Kd.R_drew)); exact HO_4.out) (Kd.R_base ho0) hb); have n1_ := Aside0.mk (Kd.R_elder' (by (with_reducible repeat (first | apply Kd.R_alloc | apply Kd.R_drewN | apply Kd.R_drew)); exact HO_7.out) (Kd.R_base ho0) hb); have n2_ := Aside0.mk (Kd.R_lower (Kd.R_new' (Kd.R_new' ho0 (Kd.R_lt (by (with_reducible repeat (first | apply Kd.R_alloc | apply Kd.R_drewN | apply Kd.R_drew)); exact HO_4.out))) (Kd.R_lt (by (with_reducible repeat (first | apply Kd.R_alloc | apply Kd.R_drewN | apply Kd.R_drew)); exact HO_7.out))) (below_size (by repeat (first | (with_reducible first | exact HB.out | apply below_alloc | apply pw_below_drewN | apply below_drew1) | exact HB.out)))); have n3_ := Aside0.mk (below_step (by repeat (first | (with_reducible first | exact HB.out | apply below_alloc | apply pw_below_drewN | apply below_drew1) | exact HB.out)) hb); clear HO_4; clear HO_7; clear HB; have HO_4 := n0_; have HO_7 := n1_; have HO257 := n2_; have HB := n3_; clear n0_ n1_ n2_ n3_; (try clear hb); (try clear hb2); (try clear hk); (try clear hi); (try clear ho0); obtain ⟨Ao18, co18, eo18⟩ := Kd.R_slice HO_7.out; subst eo18; obtain ⟨Ao19, co19, eo19⟩ := Kd.R_slice HO257.out; subst eo19) | ((with_reducible refine gate_callee (f := 41) rfl ?_); refine goesL_ (some 45) rfl rfl Try.func41 (by kernel_rfl) rfl #[.slice Ao18 x7_3.length co18, .slice Ao19 t255.length co19] rfl (by (try simp only [List.map_toArray, List.map_cons, List.map_nil]); first | done | rfl | (simp only [List.length_drop, List.length_take]; rfl)) ?_; (with_reducible refine (spec_l01Join.calls k3 _ _ x7_3 _ _ t255 t258 _ ?side1 ?side2 ?side3 ?side4 A15.out).mono ?_); (case side1 => repeat (first | exact (Kd.R_reads' HO_7.out).2.2 | (with_reducible refine Kd.C_alloc ?_ _) | (with_reducible refine Kd.C_drewN ?_ _) | (with_reducible refine Kd.C_drew ?_))); (case side2 => exact (Kd.R_reads' HO_7.out).2.1); (case side3 => repeat (first | exact (Kd.R_reads' HO257.out).2.2 | (with_reducible refine Kd.C_alloc ?_ _) | (with_reducible refine Kd.C_drewN ?_ _) | (with_reducible refine Kd.C_drew ?_))); (case side4 => exact (Kd.R_reads' HO257.out).2.1); rintro e w20 ⟨v259, rfl, ho0, hb⟩; refine ⟨_, rfl, ?_⟩; have n0_ := Aside0.mk (Kd.R_elder' (by (with_reducible repeat (first | apply Kd.R_alloc | apply Kd.R_drewN | apply Kd.R_drew)); exact HO_4.out) (Kd.R_base ho0) hb); have n1_ := Aside0.mk (Kd.R_elder' (by (with_reducible repeat (first | apply Kd.R_alloc | apply Kd.R_drewN | apply Kd.R_drew)); exact HO_7.out) (Kd.R_base ho0) hb); have n2_ := Aside0.mk (Kd.R_elder' (by (with_reducible repeat (first | apply Kd.R_alloc | apply Kd.R_drewN | apply Kd.R_drew)); exact HO257.out) (Kd.R_base ho0) hb); have n3_ := Aside0.mk (Kd.R_lower (Kd.R_new' (Kd.R_new' (Kd.R_new' ho0 (Kd.R_lt (by (with_reducible repeat (first | apply Kd.R_alloc | apply Kd.R_drewN | apply Kd.R_drew)); exact HO_4.out))) (Kd.R_lt (by (with_reducible repeat (first | apply Kd.R_alloc | apply Kd.R_drewN | apply Kd.R_drew)); exact HO_7.out))) (Kd.R_lt (by (with_reducible repeat (first | apply Kd.R_alloc | apply Kd.R_drewN | apply Kd.R_drew)); exact HO257.out))) (below_size (by repeat (first | (with_reducible first | exact HB.out | apply below_alloc | apply pw_below_drewN | apply below_drew1) | exact HB.out)))); have n4_ := Aside0.mk (below_step (by repeat (first | (with_reducible first | exact HB.out | apply below_alloc | apply pw_below_drewN | apply below_drew1) | exact HB.out)) hb); clear HO_4; clear HO_7; clear HO257; clear HB; have HO_4 := n0_; have HO_7 := n1_; have HO257 := n2_; have HO260 := n3_; have HB := n4_; clear n0_ n1_ n2_ n3_ n4_; (try clear hb); (try clear hb2); (try clear hk); (try clear hi); (try clear ho0)))
                        go_roundg k3
                        case measure => have := HK1.out; have := HJ4.out; have := HK3.out; omega
                        case rel => exact ⟨(t258), (wrap64 (x8_3 + 1)), (by first | rfl | (simp; done) | (simp [*]; done)), H', ⟨by have := HK1.out; have := HJ4.out; have := HK3.out; omega⟩, ⟨by (with_reducible repeat (first | apply Kd.R_alloc | apply Kd.R_drewN | apply Kd.R_drew)); exact Kd.R_mono HO_4.out (fun _ hk => hk.2)⟩, ⟨by (with_reducible repeat (first | apply Kd.R_alloc | apply Kd.R_drewN | apply Kd.R_drew)); exact Kd.R_mono HO260.out (fun _ hk => hk.1.1.2)⟩, ⟨by repeat (first | (with_reducible first | exact HB.out | apply below_alloc | apply pw_below_drewN | apply below_drew1) | exact HB.out)⟩⟩
                      · replace c13 := Bool.eq_false_iff.mpr c13
                        subst c13
                        have H1 : (some (([] : List Int), false)) = some (r1, r2) := by rw [if_neg (show ¬ (false = true) by decide)] at H; exact H
                        clear H
                        have H := H1
                        clear H1
                        simp only [Option.some.injEq, Prod.mk.injEq] at H
                        obtain ⟨rfl, rfl⟩ := H
                        have p252 : 0 ≤ (x8_3 : Int) := of_decide_eq_true (by first | (with_reducible assumption) | assumption)
                        have q252 : x8_3 < (l0.length : Int) := of_decide_eq_true (by first | (with_reducible assumption) | assumption)
                        obtain ⟨ad252, e252, hx252_0, hx252_1, hx252_2⟩ := at_T24 HR0.out x8_3 p252 q252
                        cases e252
                        replace hx252_0 := (HB.out.cell (World.block_lt_of_cell? w _ hx252_0)).trans hx252_0
                        replace hx252_1 := (HB.out.cell (World.block_lt_of_cell? w _ hx252_1)).trans hx252_1
                        replace hx252_2 := (HB.out.cell (World.block_lt_of_cell? w _ hx252_2)).trans hx252_2
                        replace p252 := eq_true p252
                        replace q252 := eq_true q252
                        go_wp2_with (first | ((with_reducible refine gate_callee (f := 37) rfl ?_); refine goesL_ (some 37) rfl rfl Try.func37 (by kernel_rfl) rfl #[.agg #[.int .i64 ((rd_T24 l0 x8_3).f0), .int .i64 ((rd_T24 l0 x8_3).f1), .int .i64 ((rd_T24 l0 x8_3).f2)]] rfl (by (try simp only [List.map_toArray, List.map_cons, List.map_nil]); first | done | rfl | (simp only [List.length_drop, List.length_take]; rfl)) ?_; (with_reducible refine (spec_OpOk.calls k3 ((rd_T24 l0 x8_3).f0) ((rd_T24 l0 x8_3).f1) ((rd_T24 l0 x8_3).f2) false _ A12.out).mono ?_); rintro e w21 ⟨rfl, hb⟩; refine ⟨_, rfl, ?_⟩; have n0_ := Aside0.mk (Kd.R_below (by (with_reducible repeat (first | apply Kd.R_alloc | apply Kd.R_drewN | apply Kd.R_drew)); exact HO_4.out) hb); have n1_ := Aside0.mk (Kd.R_below (by (with_reducible repeat (first | apply Kd.R_alloc | apply Kd.R_drewN | apply Kd.R_drew)); exact HO_7.out) hb); have n2_ := Aside0.mk (below_step (by repeat (first | (with_reducible first | exact HB.out | apply below_alloc | apply pw_below_drewN | apply below_drew1) | exact HB.out)) hb); clear HO_4; clear HO_7; clear HB; have HO_4 := n0_; have HO_7 := n1_; have HB := n2_; clear n0_ n1_ n2_; (try clear hb); (try clear hb2); (try clear hk); (try clear hi)))
                        go_ret2
                        exact ⟨_, by first | rfl | (simp [errW_none, errW_some] <;> rfl) | (simp [*, errW_none, errW_some] <;> rfl), by first | exact Kd.R_nil _ _ _ _ _ | exact Kd.N_nil _ _ _ _ _ | exact Kd.V_nil _ _ _ _ _ | exact Kd.Q_nil _ _ _ _ _ | exact Kd.S_nil _ _ _ _ _, by repeat (first | (with_reducible first | exact HB.out | apply below_alloc | apply pw_below_drewN | apply below_drew1) | exact HB.out)⟩
                    · rw [if_neg c11] at H
                      exact absurd H (by simp)
                  · rw [if_neg c10] at H
                    exact absurd H (by simp)
                · rw [if_neg c9] at H
                  have c9b0 : decide (x8_3 < x6_4) = false := decide_eq_false c9
                  clear c9
                  obtain ⟨y261, hy261⟩ : ∃ y_ : List Int, y_ = (([(wrap64 (x6_4 - x5_1)) % 256, ((x7_3.length : Int)) % 256] : List Int)) := ⟨_, rfl⟩
                  replace H : ((spec_l01Join.f k3 y261 x7_3).bind fun t264 => ((spec_SumBytes.f k3 t264).bind fun t267 => ((some (([(wrap64 (Int.tdiv t267 256)) % 256, (Int.tmod t267 256) % 256] : List Int) : List Int)).bind fun y268 => (if t264.length + y268.length < 140737488355328 then ((some (t264 ++ y268 : List Int)).bind fun y271 => (if (y271.length : Int) > (wrap64 (4000 - (x4_1.length : Int))) then (some (([] : List Int), false)) else ((spec_l01Join.f k3 x4_1 y271).bind fun t274 => (spec_PackOps.l0 k3 l0 t274 (wrap64 (x5_1 + 16)))))) else (none))))) = some (r1, r2) := by first | (rw [hy261]; with_reducible exact H) | (have H2_ := (Option.bind_some _ _).symm.trans H; rw [hy261]; with_reducible exact H2_) | (have H2_ := (Option.bind_some _ _).symm.trans H; with_reducible exact H2_) | with_reducible exact H | (rw [hy261]; exact H) | exact H
                  have Ny261 := Aside0.mk hy261
                  clear hy261
                  replace H := Option.bind_eq_some_iff.mp H
                  obtain ⟨t264, A220, H⟩ := H
                  replace H : ((spec_SumBytes.f k3 t264).bind fun t267 => ((some (([(wrap64 (Int.tdiv t267 256)) % 256, (Int.tmod t267 256) % 256] : List Int) : List Int)).bind fun y268 => (if t264.length + y268.length < 140737488355328 then ((some (t264 ++ y268 : List Int)).bind fun y271 => (if (y271.length : Int) > (wrap64 (4000 - (x4_1.length : Int))) then (some (([] : List Int), false)) else ((spec_l01Join.f k3 x4_1 y271).bind fun t274 => (spec_PackOps.l0 k3 l0 t274 (wrap64 (x5_1 + 16)))))) else (none)))) = some (r1, r2) := H
                  have A22 := Aside0.mk A220
                  clear A220
                  replace H := Option.bind_eq_some_iff.mp H
                  obtain ⟨t267, A230, H⟩ := H
                  replace H : ((some (([(wrap64 (Int.tdiv t267 256)) % 256, (Int.tmod t267 256) % 256] : List Int) : List Int)).bind fun y268 => (if t264.length + y268.length < 140737488355328 then ((some (t264 ++ y268 : List Int)).bind fun y271 => (if (y271.length : Int) > (wrap64 (4000 - (x4_1.length : Int))) then (some (([] : List Int), false)) else ((spec_l01Join.f k3 x4_1 y271).bind fun t274 => (spec_PackOps.l0 k3 l0 t274 (wrap64 (x5_1 + 16)))))) else (none))) = some (r1, r2) := H
                  have A23 := Aside0.mk A230
                  clear A230
                  obtain ⟨y268, hy268⟩ : ∃ y_ : List Int, y_ = (([(wrap64 (Int.tdiv t267 256)) % 256, (Int.tmod t267 256) % 256] : List Int)) := ⟨_, rfl⟩
                  replace H : (if t264.length + y268.length < 140737488355328 then ((some (t264 ++ y268 : List Int)).bind fun y271 => (if (y271.length : Int) > (wrap64 (4000 - (x4_1.length : Int))) then (some (([] : List Int), false)) else ((spec_l01Join.f k3 x4_1 y271).bind fun t274 => (spec_PackOps.l0 k3 l0 t274 (wrap64 (x5_1 + 16)))))) else (none)) = some (r1, r2) := by first | (rw [hy268]; with_reducible exact H) | (have H2_ := (Option.bind_some _ _).symm.trans H; rw [hy268]; with_reducible exact H2_) | (have H2_ := (Option.bind_some _ _).symm.trans H; with_reducible exact H2_) | with_reducible exact H | (rw [hy268]; exact H) | exact H
                  have Ny268 := Aside0.mk hy268
                  clear hy268
                  by_cases c24 : t264.length + y268.length < 140737488355328
                  · rw [if_pos c24] at H
                    have LMc24 := Aside0.mk c24
                    clear c24
                    obtain ⟨y271, hy271⟩ : ∃ y_ : List Int, y_ = (t264 ++ y268) := ⟨_, rfl⟩
                    replace H : (if (y271.length : Int) > (wrap64 (4000 - (x4_1.length : Int))) then (some (([] : List Int), false)) else ((spec_l01Join.f k3 x4_1 y271).bind fun t274 => (spec_PackOps.l0 k3 l0 t274 (wrap64 (x5_1 + 16))))) = some (r1, r2) := by first | (rw [hy271]; with_reducible exact H) | (have H2_ := (Option.bind_some _ _).symm.trans H; rw [hy271]; with_reducible exact H2_) | (have H2_ := (Option.bind_some _ _).symm.trans H; with_reducible exact H2_) | with_reducible exact H | (rw [hy271]; exact H) | exact H
                    have Ny271 := Aside0.mk hy271
                    clear hy271
                    by_cases c25 : (y271.length : Int) > (wrap64 (4000 - (x4_1.length : Int)))
                    · rw [if_pos c25] at H
                      have c25b0 : decide ((wrap64 (4000 - (x4_1.length : Int))) < (y271.length : Int)) = true := decide_eq_true c25
                      clear c25
                      simp only [Option.some.injEq, Prod.mk.injEq] at H
                      obtain ⟨rfl, rfl⟩ := H
                      obtain ⟨Ao26, co26, eo26⟩ := Kd.R_slice HO_7.out
                      subst eo26
                      go_wp2_with (first | ((with_reducible refine gate_dst (N := 53) rfl ?_); refine Kd.R_lit (Kd.int .u8) _ 5 ?hg (N := 53) ?hd (xs := ([(wrap64 (x6_4 - x5_1)) % 256, ((x7_3.length : Int)) % 256] : List Int)) (inner := [.int .u8 ((wrap64 (x6_4 - x5_1)) % 256), .int .u8 (((x7_3.length : Int)) % 256)]) (ok := fun _ => True) (okp := fun _ => True) ?hr ?hp (fun _ hk => hk) trivial (Below.refl _ _) (Nat.le_refl _) (by simp) ?_; (case hd => rfl); (case hg => rfl); (case hr => first | (go_simp; done) | (go_simp; rfl)); (case hp => exact (Reps.one (show Kd.M (Kd.int .u8) _ _ _ ((wrap64 (x6_4 - x5_1)) % 256) [.int .u8 ((wrap64 (x6_4 - x5_1)) % 256)] from rfl) (Reps.one (show Kd.M (Kd.int .u8) _ _ _ (((x7_3.length : Int)) % 256) [.int .u8 (((x7_3.length : Int)) % 256)] from rfl) (Reps.none _ _)))); intro v262 w27 ho28 hb hg_ hnew_; clear hg_ hnew_; (first | rw [← Ny261.out] at ho28 | (simp only [Int.reduceToNat] at ho28; rw [← Ny261.out] at ho28)); have n0_ := Aside0.mk (Kd.R_elder' (by (with_reducible repeat (first | apply Kd.R_alloc | apply Kd.R_drewN | apply Kd.R_drew)); exact HO_4.out) (Kd.R_base ho28) hb); have n1_ := Aside0.mk (Kd.R_elder' (by (with_reducible repeat (first | apply Kd.R_alloc | apply Kd.R_drewN | apply Kd.R_drew)); exact HO_7.out) (Kd.R_base ho28) hb); have n2_ := Aside0.mk (Kd.R_lower (Kd.R_new' (Kd.R_new' ho28 (Kd.R_lt (by (with_reducible repeat (first | apply Kd.R_alloc | apply Kd.R_drewN | apply Kd.R_drew)); exact HO_4.out))) (Kd.R_lt (by (with_reducible repeat (first | apply Kd.R_alloc | apply Kd.R_drewN | apply Kd.R_drew)); exact HO_7.out))) (below_size (by repeat (first | (with_reducible first | exact HB.out | apply below_alloc | apply pw_below_drewN | apply below_drew1) | exact HB.out)))); have n3_ := Aside0.mk (below_step (by repeat (first | (with_reducible first | exact HB.out | apply below_alloc | apply pw_below_drewN | apply below_drew1) | exact HB.out)) hb); clear HO_4; clear HO_7; clear HB; have HO_4 := n0_; have HO_7 := n1_; have HO263 := n2_; have HB := n3_; clear n0_ n1_ n2_ n3_; clear hb ho28; obtain ⟨Ao29, co29, eo29⟩ := Kd.R_slice HO263.out; subst eo29) | ((with_reducible refine gate_callee (f := 41) rfl ?_); refine goesL_ (some 55) rfl rfl Try.func41 (by kernel_rfl) rfl #[.slice Ao29 y261.length co29, .slice Ao26 x7_3.length co26] rfl (by (try simp only [List.map_toArray, List.map_cons, List.map_nil]); first | done | rfl | (simp only [List.length_drop, List.length_take]; rfl)) ?_; (with_reducible refine (spec_l01Join.calls k3 _ _ y261 _ _ x7_3 t264 _ ?side1 ?side2 ?side3 ?side4 A22.out).mono ?_); (case side1 => repeat (first | exact (Kd.R_reads' HO263.out).2.2 | (with_reducible refine Kd.C_alloc ?_ _) | (with_reducible refine Kd.C_drewN ?_ _) | (with_reducible refine Kd.C_drew ?_))); (case side2 => exact (Kd.R_reads' HO263.out).2.1); (case side3 => repeat (first | exact (Kd.R_reads' HO_7.out).2.2 | (with_reducible refine Kd.C_alloc ?_ _) | (with_reducible refine Kd.C_drewN ?_ _) | (with_reducible refine Kd.C_drew ?_))); (case side4 => exact (Kd.R_reads' HO_7.out).2.1); rintro e w30 ⟨v265, rfl, ho0, hb⟩; refine ⟨_, rfl, ?_⟩; have n0_ := Aside0.mk (Kd.R_elder' (by (with_reducible repeat (first | apply Kd.R_alloc | apply Kd.R_drewN | apply Kd.R_drew)); exact HO_4.out) (Kd.R_base ho0) hb); have n1_ := Aside0.mk (Kd.R_elder' (by (with_reducible repeat (first | apply Kd.R_alloc | apply Kd.R_drewN | apply Kd.R_drew)); exact HO_7.out) (Kd.R_base ho0) hb); have n2_ := Aside0.mk (Kd.R_elder' (by (with_reducible repeat (first | apply Kd.R_alloc | apply Kd.R_drewN | apply Kd.R_drew)); exact HO263.out) (Kd.R_base ho0) hb); have n3_ := Aside0.mk (Kd.R_lower (Kd.R_new' (Kd.R_new' (Kd.R_new' ho0 (Kd.R_lt (by (with_reducible repeat (first | apply Kd.R_alloc | apply Kd.R_drewN | apply Kd.R_drew)); exact HO_4.out))) (Kd.R_lt (by (with_reducible repeat (first | apply Kd.R_alloc | apply Kd.R_drewN | apply Kd.R_drew)); exact HO_7.out))) (Kd.R_lt (by (with_reducible repeat (first | apply Kd.R_alloc | apply Kd.R_drewN | apply Kd.R_drew)); exact HO263.out))) (below_size (by repeat (first | (with_reducible first | exact HB.out | apply below_alloc | apply pw_below_drewN | apply below_drew1) | exact HB.out)))); have n4_ := Aside0.mk (below_step (by repeat (first | (with_reducible first | exact HB.out | apply below_alloc | apply pw_below_drewN | apply below_drew1) | exact HB.out)) hb); clear HO_4; clear HO_7; clear HO263; clear HB; have HO_4 := n0_; have HO_7 := n1_; have HO263 := n2_; have HO266 := n3_; have HB := n4_; clear n0_ n1_ n2_ n3_ n4_; (try clear hb); (try clear hb2); (try clear hk); (try clear hi); (try clear ho0); obtain ⟨Ao31, co31, eo31⟩ := Kd.R_slice HO266.out; subst eo31) | ((with_reducible refine gate_callee (f := 43) rfl ?_); refine goesL_ (some 57) rfl rfl Try.func43 (by kernel_rfl) rfl #[.slice Ao31 t264.length co31] rfl (by (try simp only [List.map_toArray, List.map_cons, List.map_nil]); first | done | rfl | (simp only [List.length_drop, List.length_take]; rfl)) ?_; (with_reducible refine (spec_SumBytes.calls k3 _ _ t264 t267 _ ?side1 ?side2 A23.out).mono ?_); (case side1 => repeat (first | exact (Kd.R_reads' HO266.out).2.2 | (with_reducible refine Kd.C_alloc ?_ _) | (with_reducible refine Kd.C_drewN ?_ _) | (with_reducible refine Kd.C_drew ?_))); (case side2 => exact (Kd.R_reads' HO266.out).2.1); rintro e w' ⟨rfl, ⟨nd, rfl⟩⟩; refine ⟨_, rfl, ?_⟩) | ((with_reducible refine gate_dst (N := 65) rfl ?_); refine Kd.R_lit (Kd.int .u8) _ 5 ?hg (N := 65) ?hd (xs := ([(wrap64 (Int.tdiv t267 256)) % 256, (Int.tmod t267 256) % 256] : List Int)) (inner := [.int .u8 ((wrap64 (Int.tdiv t267 256)) % 256), .int .u8 ((Int.tmod t267 256) % 256)]) (ok := fun _ => True) (okp := fun _ => True) ?hr ?hp (fun _ hk => hk) trivial (Below.refl _ _) (Nat.le_refl _) (by simp) ?_; (case hd => rfl); (case hg => rfl); (case hr => first | (go_simp; done) | (go_simp; rfl)); (case hp => exact (Reps.one (show Kd.M (Kd.int .u8) _ _ _ ((wrap64 (Int.tdiv t267 256)) % 256) [.int .u8 ((wrap64 (Int.tdiv t267 256)) % 256)] from rfl) (Reps.one (show Kd.M (Kd.int .u8) _ _ _ ((Int.tmod t267 256) % 256) [.int .u8 ((Int.tmod t267 256) % 256)] from rfl) (Reps.none _ _)))); intro v269 w32 ho33 hb hg_ hnew_; clear hg_ hnew_; (first | rw [← Ny268.out] at ho33 | (simp only [Int.reduceToNat] at ho33; rw [← Ny268.out] at ho33)); have n0_ := Aside0.mk (Kd.R_elder' (by (with_reducible repeat (first | apply Kd.R_alloc | apply Kd.R_drewN | apply Kd.R_drew)); exact HO_4.out) (Kd.R_base ho33) hb); have n1_ := Aside0.mk (Kd.R_elder' (by (with_reducible repeat (first | apply Kd.R_alloc | apply Kd.R_drewN | apply Kd.R_drew)); exact HO_7.out) (Kd.R_base ho33) hb); have n2_ := Aside0.mk (Kd.R_elder' (by (with_reducible repeat (first | apply Kd.R_alloc | apply Kd.R_drewN | apply Kd.R_drew)); exact HO263.out) (Kd.R_base ho33) hb); have n3_ := Aside0.mk (Kd.R_elder' (by (with_reducible repeat (first | apply Kd.R_alloc | apply Kd.R_drewN | apply Kd.R_drew)); exact HO266.out) (Kd.R_base ho33) hb); have n4_ := Aside0.mk (Kd.R_lower (Kd.R_new' (Kd.R_new' (Kd.R_new' (Kd.R_new' ho33 (Kd.R_lt (by (with_reducible repeat (first | apply Kd.R_alloc | apply Kd.R_drewN | apply Kd.R_drew)); exact HO_4.out))) (Kd.R_lt (by (with_reducible repeat (first | apply Kd.R_alloc | apply Kd.R_drewN | apply Kd.R_drew)); exact HO_7.out))) (Kd.R_lt (by (with_reducible repeat (first | apply Kd.R_alloc | apply Kd.R_drewN | apply Kd.R_drew)); exact HO263.out))) (Kd.R_lt (by (with_reducible repeat (first | apply Kd.R_alloc | apply Kd.R_drewN | apply Kd.R_drew)); exact HO266.out))) (below_size (by repeat (first | (with_reducible first | exact HB.out | apply below_alloc | apply pw_below_drewN | apply below_drew1) | exact HB.out)))); have n5_ := Aside0.mk (below_step (by repeat (first | (with_reducible first | exact HB.out | apply below_alloc | apply pw_below_drewN | apply below_drew1) | exact HB.out)) hb); clear HO_4; clear HO_7; clear HO263; clear HO266; clear HB; have HO_4 := n0_; have HO_7 := n1_; have HO263 := n2_; have HO266 := n3_; have HO270 := n4_; have HB := n5_; clear n0_ n1_ n2_ n3_ n4_ n5_; clear hb ho33; obtain ⟨Ao35, co35, eo35⟩ := Kd.R_slice HO270.out; subst eo35) | ((with_reducible refine gate_builtin (b := .append) (xs := #[.tmp 58, .tmp 65]) rfl ?_); at_builtin; refine Kd.R_append_rows (Kd.int .u8) (w0 := w) w.heap.size rfl (.tmp 58) (.tmp 65) 22 5 (.int .u8 0) 1 rfl Try.underlying22 info5 rfl (by decide) (by omega) (.slice Ao31 t264.length co31) t264 y268 _ _ _ (fun k_ => some k_ ≠ (u4 : Value).ownBlock ∧ some k_ ≠ (.slice Ao26 x7_3.length co26 : Value).ownBlock ∧ some k_ ≠ (.slice Ao29 y261.length co29 : Value).ownBlock ∧ some k_ ≠ (.slice Ao35 y268.length co35 : Value).ownBlock) (fun _ => False) rfl rfl ?aO ?aR (fun _ _ h => h) (fun _ h => h.elim) ?aF ?aB ?aS ?aL ?_; (case aR => repeat (first | exact (Kd.R_reads' HO270.out).2.2 | (with_reducible refine Kd.C_alloc ?_ _) | (with_reducible refine Kd.C_drewN ?_ _) | (with_reducible refine Kd.C_drew ?_))); (case aB => exact (by repeat (first | (with_reducible first | exact HB.out | apply below_alloc | apply pw_below_drewN | apply below_drew1) | exact HB.out))); (case aF => exact (fun k_ hk => ⟨Kd.fresh' (Kd.R_lt (by (with_reducible repeat (first | apply Kd.R_alloc | apply Kd.R_drewN | apply Kd.R_drew)); exact HO_4.out)) k_ hk, Kd.fresh' (Kd.R_lt (by (with_reducible repeat (first | apply Kd.R_alloc | apply Kd.R_drewN | apply Kd.R_drew)); exact HO_7.out)) k_ hk, Kd.fresh' (Kd.R_lt (by (with_reducible repeat (first | apply Kd.R_alloc | apply Kd.R_drewN | apply Kd.R_drew)); exact HO263.out)) k_ hk, Kd.fresh' (Kd.R_lt (by (with_reducible repeat (first | apply Kd.R_alloc | apply Kd.R_drewN | apply Kd.R_drew)); exact HO270.out)) k_ hk⟩)); (case aO => exact (by (with_reducible repeat (first | apply Kd.R_alloc | apply Kd.R_drewN | apply Kd.R_drew)); exact Kd.R_mono HO266.out (fun _ hk => ⟨hk.1.1.1.2, ⟨hk.1.1.2, ⟨hk.1.2, hk.2⟩⟩⟩))); (case aS => exact (below_size (by repeat (first | (with_reducible first | exact HB.out | apply below_alloc | apply pw_below_drewN | apply below_drew1) | exact HB.out)))); (case aL => have := LMc24.out; omega); intro v272 w34 ho hb hg hat; rw [← Ny271.out] at ho; have n0_ := Aside0.mk (Kd.R_after (ok := (fun k_ => some k_ ≠ (.slice Ao26 x7_3.length co26 : Value).ownBlock ∧ some k_ ≠ (.slice Ao29 y261.length co29 : Value).ownBlock ∧ some k_ ≠ (.slice Ao35 y268.length co35 : Value).ownBlock)) (by (with_reducible repeat (first | apply Kd.R_alloc | apply Kd.R_drewN | apply Kd.R_drew)); exact Kd.R_mono HO_4.out (fun _ hk => ⟨⟨hk.1.1.1, ⟨hk.1.1.2, hk.2⟩⟩, hk.1.2⟩)) hg hat); have n1_ := Aside0.mk (Kd.R_after (ok := (fun k_ => some k_ ≠ (u4 : Value).ownBlock ∧ some k_ ≠ (.slice Ao29 y261.length co29 : Value).ownBlock ∧ some k_ ≠ (.slice Ao35 y268.length co35 : Value).ownBlock)) (by (with_reducible repeat (first | apply Kd.R_alloc | apply Kd.R_drewN | apply Kd.R_drew)); exact Kd.R_mono HO_7.out (fun _ hk => ⟨⟨hk.1.1.1, ⟨hk.1.1.2, hk.2⟩⟩, hk.1.2⟩)) hg hat); have n2_ := Aside0.mk (Kd.R_after (ok := (fun k_ => some k_ ≠ (u4 : Value).ownBlock ∧ some k_ ≠ (.slice Ao26 x7_3.length co26 : Value).ownBlock ∧ some k_ ≠ (.slice Ao35 y268.length co35 : Value).ownBlock)) (by (with_reducible repeat (first | apply Kd.R_alloc | apply Kd.R_drewN | apply Kd.R_drew)); exact Kd.R_mono HO263.out (fun _ hk => ⟨⟨hk.1.1.1.2, ⟨hk.1.1.2, hk.2⟩⟩, hk.1.2⟩)) hg hat); have n3_ := Aside0.mk (Kd.R_after (ok := (fun k_ => some k_ ≠ (u4 : Value).ownBlock ∧ some k_ ≠ (.slice Ao26 x7_3.length co26 : Value).ownBlock ∧ some k_ ≠ (.slice Ao29 y261.length co29 : Value).ownBlock)) (by (with_reducible repeat (first | apply Kd.R_alloc | apply Kd.R_drewN | apply Kd.R_drew)); exact Kd.R_mono HO270.out (fun _ hk => ⟨⟨hk.1.1.1.2, ⟨hk.1.1.2, hk.1.2⟩⟩, hk.2⟩)) hg hat); have n4_ := Aside0.mk (hb); have n5_ := Aside0.mk (ho); clear HO_4; clear HO_7; clear HO263; clear HO270; clear HB; clear HO266; have HO_4 := n0_; have HO_7 := n1_; have HO263 := n2_; have HO270 := n3_; have HB := n4_; have HO273 := n5_; clear n0_ n1_ n2_ n3_ n4_ n5_; clear ho hb hg hat; obtain ⟨Ao36, co36, eo36⟩ := Kd.R_slice HO273.out; subst eo36; obtain ⟨Ao37, co37, eo37⟩ := Kd.R_slice HO_4.out; subst eo37))
                      go_ret2
                      exact ⟨_, by first | rfl | (simp [errW_none, errW_some] <;> rfl) | (simp [*, errW_none, errW_some] <;> rfl), by first | exact Kd.R_nil _ _ _ _ _ | exact Kd.N_nil _ _ _ _ _ | exact Kd.V_nil _ _ _ _ _ | exact Kd.Q_nil _ _ _ _ _ | exact Kd.S_nil _ _ _ _ _, by repeat (first | (with_reducible first | exact HB.out | apply below_alloc | apply pw_below_drewN | apply below_drew1) | exact HB.out)⟩
                    · rw [if_neg c25] at H
                      have c25b0 : decide ((wrap64 (4000 - (x4_1.length : Int))) < (y271.length : Int)) = false := decide_eq_false c25
                      clear c25
                      replace H := Option.bind_eq_some_iff.mp H
                      obtain ⟨t274, A380, H⟩ := H
                      replace H : (spec_PackOps.l0 k3 l0 t274 (wrap64 (x5_1 + 16))) = some (r1, r2) := H
                      have A38 := Aside0.mk A380
                      clear A380
                      have H' := Aside0.mk H
                      clear H
                      obtain ⟨Ao39, co39, eo39⟩ := Kd.R_slice HO_7.out
                      subst eo39
                      go_wp2_with (first | ((with_reducible refine gate_dst (N := 53) rfl ?_); refine Kd.R_lit (Kd.int .u8) _ 5 ?hg (N := 53) ?hd (xs := ([(wrap64 (x6_4 - x5_1)) % 256, ((x7_3.length : Int)) % 256] : List Int)) (inner := [.int .u8 ((wrap64 (x6_4 - x5_1)) % 256), .int .u8 (((x7_3.length : Int)) % 256)]) (ok := fun _ => True) (okp := fun _ => True) ?hr ?hp (fun _ hk => hk) trivial (Below.refl _ _) (Nat.le_refl _) (by simp) ?_; (case hd => rfl); (case hg => rfl); (case hr => first | (go_simp; done) | (go_simp; rfl)); (case hp => exact (Reps.one (show Kd.M (Kd.int .u8) _ _ _ ((wrap64 (x6_4 - x5_1)) % 256) [.int .u8 ((wrap64 (x6_4 - x5_1)) % 256)] from rfl) (Reps.one (show Kd.M (Kd.int .u8) _ _ _ (((x7_3.length : Int)) % 256) [.int .u8 (((x7_3.length : Int)) % 256)] from rfl) (Reps.none _ _)))); intro v262 w40 ho41 hb hg_ hnew_; clear hg_ hnew_; (first | rw [← Ny261.out] at ho41 | (simp only [Int.reduceToNat] at ho41; rw [← Ny261.out] at ho41)); have n0_ := Aside0.mk (Kd.R_elder' (by (with_reducible repeat (first | apply Kd.R_alloc | apply Kd.R_drewN | apply Kd.R_drew)); exact HO_4.out) (Kd.R_base ho41) hb); have n1_ := Aside0.mk (Kd.R_elder' (by (with_reducible repeat (first | apply Kd.R_alloc | apply Kd.R_drewN | apply Kd.R_drew)); exact HO_7.out) (Kd.R_base ho41) hb); have n2_ := Aside0.mk (Kd.R_lower (Kd.R_new' (Kd.R_new' ho41 (Kd.R_lt (by (with_reducible repeat (first | apply Kd.R_alloc | apply Kd.R_drewN | apply Kd.R_drew)); exact HO_4.out))) (Kd.R_lt (by (with_reducible repeat (first | apply Kd.R_alloc | apply Kd.R_drewN | apply Kd.R_drew)); exact HO_7.out))) (below_size (by repeat (first | (with_reducible first | exact HB.out | apply below_alloc | apply pw_below_drewN | apply below_drew1) | exact HB.out)))); have n3_ := Aside0.mk (below_step (by repeat (first | (with_reducible first | exact HB.out | apply below_alloc | apply pw_below_drewN | apply below_drew1) | exact HB.out)) hb); clear HO_4; clear HO_7; clear HB; have HO_4 := n0_; have HO_7 := n1_; have HO263 := n2_; have HB := n3_; clear n0_ n1_ n2_ n3_; clear hb ho41; obtain ⟨Ao42, co42, eo42⟩ := Kd.R_slice HO263.out; subst eo42) | ((with_reducible refine gate_callee (f := 41) rfl ?_); refine goesL_ (some 55) rfl rfl Try.func41 (by kernel_rfl) rfl #[.slice Ao42 y261.length co42, .slice Ao39 x7_3.length co39] rfl (by (try simp only [List.map_toArray, List.map_cons, List.map_nil]); first | done | rfl | (simp only [List.length_drop, List.length_take]; rfl)) ?_; (with_reducible refine (spec_l01Join.calls k3 _ _ y261 _ _ x7_3 t264 _ ?side1 ?side2 ?side3 ?side4 A22.out).mono ?_); (case side1 => repeat (first | exact (Kd.R_reads' HO263.out).2.2 | (with_reducible refine Kd.C_alloc ?_ _) | (with_reducible refine Kd.C_drewN ?_ _) | (with_reducible refine Kd.C_drew ?_))); (case side2 => exact (Kd.R_reads' HO263.out).2.1); (case side3 => repeat (first | exact (Kd.R_reads' HO_7.out).2.2 | (with_reducible refine Kd.C_alloc ?_ _) | (with_reducible refine Kd.C_drewN ?_ _) | (with_reducible refine Kd.C_drew ?_))); (case side4 => exact (Kd.R_reads' HO_7.out).2.1); rintro e w43 ⟨v265, rfl, ho0, hb⟩; refine ⟨_, rfl, ?_⟩; have n0_ := Aside0.mk (Kd.R_elder' (by (with_reducible repeat (first | apply Kd.R_alloc | apply Kd.R_drewN | apply Kd.R_drew)); exact HO_4.out) (Kd.R_base ho0) hb); have n1_ := Aside0.mk (Kd.R_elder' (by (with_reducible repeat (first | apply Kd.R_alloc | apply Kd.R_drewN | apply Kd.R_drew)); exact HO_7.out) (Kd.R_base ho0) hb); have n2_ := Aside0.mk (Kd.R_elder' (by (with_reducible repeat (first | apply Kd.R_alloc | apply Kd.R_drewN | apply Kd.R_drew)); exact HO263.out) (Kd.R_base ho0) hb); have n3_ := Aside0.mk (Kd.R_lower (Kd.R_new' (Kd.R_new' (Kd.R_new' ho0 (Kd.R_lt (by (with_reducible repeat (first | apply Kd.R_alloc | apply Kd.R_drewN | apply Kd.R_drew)); exact HO_4.out))) (Kd.R_lt (by (with_reducible repeat (first | apply Kd.R_alloc | apply Kd.R_drewN | apply Kd.R_drew)); exact HO_7.out))) (Kd.R_lt (by (with_reducible repeat (first | apply Kd.R_alloc | apply Kd.R_drewN | apply Kd.R_drew)); exact HO263.out))) (below_size (by repeat (first | (with_reducible first | exact HB.out | apply below_alloc | apply pw_below_drewN | apply below_drew1) | exact HB.out)))); have n4_ := Aside0.mk (below_step (by repeat (first | (with_reducible first | exact HB.out | apply below_alloc | apply pw_below_drewN | apply below_drew1) | exact HB.out)) hb); clear HO_4; clear HO_7; clear HO263; clear HB; have HO_4 := n0_; have HO_7 := n1_; have HO263 := n2_; have HO266 := n3_; have HB := n4_; clear n0_ n1_ n2_ n3_ n4_; (try clear hb); (try clear hb2); (try clear hk); (try clear hi); (try clear ho0); obtain ⟨Ao44, co44, eo44⟩ := Kd.R_slice HO266.out; subst eo44) | ((with_reducible refine gate_callee (f := 43) rfl ?_); refine goesL_ (some 57) rfl rfl Try.func43 (by kernel_rfl) rfl #[.slice Ao44 t264.length co44] rfl (by (try simp only [List.map_toArray, List.map_cons, List.map_nil]); first | done | rfl | (simp only [List.length_drop, List.length_take]; rfl)) ?_; (with_reducible refine (spec_SumBytes.calls k3 _ _ t264 t267 _ ?side1 ?side2 A23.out).mono ?_); (case side1 => repeat (first | exact (Kd.R_reads' HO266.out).2.2 | (with_reducible refine Kd.C_alloc ?_ _) | (with_reducible refine Kd.C_drewN ?_ _) | (with_reducible refine Kd.C_drew ?_))); (case side2 => exact (Kd.R_reads' HO266.out).2.1); rintro e w' ⟨rfl, ⟨nd, rfl⟩⟩; refine ⟨_, rfl, ?_⟩) | ((with_reducible refine gate_dst (N := 65) rfl ?_); refine Kd.R_lit (Kd.int .u8) _ 5 ?hg (N := 65) ?hd (xs := ([(wrap64 (Int.tdiv t267 256)) % 256, (Int.tmod t267 256) % 256] : List Int)) (inner := [.int .u8 ((wrap64 (Int.tdiv t267 256)) % 256), .int .u8 ((Int.tmod t267 256) % 256)]) (ok := fun _ => True) (okp := fun _ => True) ?hr ?hp (fun _ hk => hk) trivial (Below.refl _ _) (Nat.le_refl _) (by simp) ?_; (case hd => rfl); (case hg => rfl); (case hr => first | (go_simp; done) | (go_simp; rfl)); (case hp => exact (Reps.one (show Kd.M (Kd.int .u8) _ _ _ ((wrap64 (Int.tdiv t267 256)) % 256) [.int .u8 ((wrap64 (Int.tdiv t267 256)) % 256)] from rfl) (Reps.one (show Kd.M (Kd.int .u8) _ _ _ ((Int.tmod t267 256) % 256) [.int .u8 ((Int.tmod t267 256) % 256)] from rfl) (Reps.none _ _)))); intro v269 w45 ho46 hb hg_ hnew_; clear hg_ hnew_; (first | rw [← Ny268.out] at ho46 | (simp only [Int.reduceToNat] at ho46; rw [← Ny268.out] at ho46)); have n0_ := Aside0.mk (Kd.R_elder' (by (with_reducible repeat (first | apply Kd.R_alloc | apply Kd.R_drewN | apply Kd.R_drew)); exact HO_4.out) (Kd.R_base ho46) hb); have n1_ := Aside0.mk (Kd.R_elder' (by (with_reducible repeat (first | apply Kd.R_alloc | apply Kd.R_drewN | apply Kd.R_drew)); exact HO_7.out) (Kd.R_base ho46) hb); have n2_ := Aside0.mk (Kd.R_elder' (by (with_reducible repeat (first | apply Kd.R_alloc | apply Kd.R_drewN | apply Kd.R_drew)); exact HO263.out) (Kd.R_base ho46) hb); have n3_ := Aside0.mk (Kd.R_elder' (by (with_reducible repeat (first | apply Kd.R_alloc | apply Kd.R_drewN | apply Kd.R_drew)); exact HO266.out) (Kd.R_base ho46) hb); have n4_ := Aside0.mk (Kd.R_lower (Kd.R_new' (Kd.R_new' (Kd.R_new' (Kd.R_new' ho46 (Kd.R_lt (by (with_reducible repeat (first | apply Kd.R_alloc | apply Kd.R_drewN | apply Kd.R_drew)); exact HO_4.out))) (Kd.R_lt (by (with_reducible repeat (first | apply Kd.R_alloc | apply Kd.R_drewN | apply Kd.R_drew)); exact HO_7.out))) (Kd.R_lt (by (with_reducible repeat (first | apply Kd.R_alloc | apply Kd.R_drewN | apply Kd.R_drew)); exact HO263.out))) (Kd.R_lt (by (with_reducible repeat (first | apply Kd.R_alloc | apply Kd.R_drewN | apply Kd.R_drew)); exact HO266.out))) (below_size (by repeat (first | (with_reducible first | exact HB.out | apply below_alloc | apply pw_below_drewN | apply below_drew1) | exact HB.out)))); have n5_ := Aside0.mk (below_step (by repeat (first | (with_reducible first | exact HB.out | apply below_alloc | apply pw_below_drewN | apply below_drew1) | exact HB.out)) hb); clear HO_4; clear HO_7; clear HO263; clear HO266; clear HB; have HO_4 := n0_; have HO_7 := n1_; have HO263 := n2_; have HO266 := n3_; have HO270 := n4_; have HB := n5_; clear n0_ n1_ n2_ n3_ n4_ n5_; clear hb ho46; obtain ⟨Ao48, co48, eo48⟩ := Kd.R_slice HO270.out; subst eo48) | ((with_reducible refine gate_builtin (b := .append) (xs := #[.tmp 58, .tmp 65]) rfl ?_); at_builtin; refine Kd.R_append_rows (Kd.int .u8) (w0 := w) w.heap.size rfl (.tmp 58) (.tmp 65) 22 5 (.int .u8 0) 1 rfl Try.underlying22 info5 rfl (by decide) (by omega) (.slice Ao44 t264.length co44) t264 y268 _ _ _ (fun k_ => some k_ ≠ (u4 : Value).ownBlock ∧ some k_ ≠ (.slice Ao39 x7_3.length co39 : Value).ownBlock ∧ some k_ ≠ (.slice Ao42 y261.length co42 : Value).ownBlock ∧ some k_ ≠ (.slice Ao48 y268.length co48 : Value).ownBlock) (fun _ => False) rfl rfl ?aO ?aR (fun _ _ h => h) (fun _ h => h.elim) ?aF ?aB ?aS ?aL ?_; (case aR => repeat (first | exact (Kd.R_reads' HO270.out).2.2 | (with_reducible refine Kd.C_alloc ?_ _) | (with_reducible refine Kd.C_drewN ?_ _) | (with_reducible refine Kd.C_drew ?_))); (case aB => exact (by repeat (first | (with_reducible first | exact HB.out | apply below_alloc | apply pw_below_drewN | apply below_drew1) | exact HB.out))); (case aF => exact (fun k_ hk => ⟨Kd.fresh' (Kd.R_lt (by (with_reducible repeat (first | apply Kd.R_alloc | apply Kd.R_drewN | apply Kd.R_drew)); exact HO_4.out)) k_ hk, Kd.fresh' (Kd.R_lt (by (with_reducible repeat (first | apply Kd.R_alloc | apply Kd.R_drewN | apply Kd.R_drew)); exact HO_7.out)) k_ hk, Kd.fresh' (Kd.R_lt (by (with_reducible repeat (first | apply Kd.R_alloc | apply Kd.R_drewN | apply Kd.R_drew)); exact HO263.out)) k_ hk, Kd.fresh' (Kd.R_lt (by (with_reducible repeat (first | apply Kd.R_alloc | apply Kd.R_drewN | apply Kd.R_drew)); exact HO270.out)) k_ hk⟩)); (case aO => exact (by (with_reducible repeat (first | apply Kd.R_alloc | apply Kd.R_drewN | apply Kd.R_drew)); exact Kd.R_mono HO266.out (fun _ hk => ⟨hk.1.1.1.2, ⟨hk.1.1.2, ⟨hk.1.2, hk.2⟩⟩⟩))); (case aS => exact (below_size (by repeat (first | (with_reducible first | exact HB.out | apply below_alloc | apply pw_below_drewN | apply below_drew1) | exact HB.out)))); (case aL => have := LMc24.out; omega); intro v272 w47 ho hb hg hat; rw [← Ny271.out] at ho; have n0_ := Aside0.mk (Kd.R_after (ok := (fun k_ => some k_ ≠ (.slice Ao39 x7_3.length co39 : Value).ownBlock ∧ some k_ ≠ (.slice Ao42 y261.length co42 : Value).ownBlock ∧ some k_ ≠ (.slice Ao48 y268.length co48 : Value).ownBlock)) (by (with_reducible repeat (first | apply Kd.R_alloc | apply Kd.R_drewN | apply Kd.R_drew)); exact Kd.R_mono HO_4.out (fun _ hk => ⟨⟨hk.1.1.1, ⟨hk.1.1.2, hk.2⟩⟩, hk.1.2⟩)) hg hat); have n1_ := Aside0.mk (Kd.R_after (ok := (fun k_ => some k_ ≠ (u4 : Value).ownBlock ∧ some k_ ≠ (.slice Ao42 y261.length co42 : Value).ownBlock ∧ some k_ ≠ (.slice Ao48 y268.length co48 : Value).ownBlock)) (by (with_reducible repeat (first | apply Kd.R_alloc | apply Kd.R_drewN | apply Kd.R_drew)); exact Kd.R_mono HO_7.out (fun _ hk => ⟨⟨hk.1.1.1, ⟨hk.1.1.2, hk.2⟩⟩, hk.1.2⟩)) hg hat); have n2_ := Aside0.mk (Kd.R_after (ok := (fun k_ => some k_ ≠ (u4 : Value).ownBlock ∧ some k_ ≠ (.slice Ao39 x7_3.length co39 : Value).ownBlock ∧ some k_ ≠ (.slice Ao48 y268.length co48 : Value).ownBlock)) (by (with_reducible repeat (first | apply Kd.R_alloc | apply Kd.R_drewN | apply Kd.R_drew)); exact Kd.R_mono HO263.out (fun _ hk => ⟨⟨hk.1.1.1.2, ⟨hk.1.1.2, hk.2⟩⟩, hk.1.2⟩)) hg hat); have n3_ := Aside0.mk (Kd.R_after (ok := (fun k_ => some k_ ≠ (u4 : Value).ownBlock ∧ some k_ ≠ (.slice Ao39 x7_3.length co39 : Value).ownBlock ∧ some k_ ≠ (.slice Ao42 y261.length co42 : Value).ownBlock)) (by (with_reducible repeat (first | apply Kd.R_alloc | apply Kd.R_drewN | apply Kd.R_drew)); exact Kd.R_mono HO270.out (fun _ hk => ⟨⟨hk.1.1.1.2, ⟨hk.1.1.2, hk.1.2⟩⟩, hk.2⟩)) hg hat); have n4_ := Aside0.mk (hb); have n5_ := Aside0.mk (ho); clear HO_4; clear HO_7; clear HO263; clear HO270; clear HB; clear HO266; have HO_4 := n0_; have HO_7 := n1_; have HO263 := n2_; have HO270 := n3_; have HB := n4_; have HO273 := n5_; clear n0_ n1_ n2_ n3_ n4_ n5_; clear ho hb hg hat; obtain ⟨Ao49, co49, eo49⟩ := Kd.R_slice HO273.out; subst eo49; obtain ⟨Ao50, co50, eo50⟩ := Kd.R_slice HO_4.out; subst eo50) | ((with_reducible refine gate_callee (f := 41) rfl ?_); refine goesL_ (some 75) rfl rfl Try.func41 (by kernel_rfl) rfl #[.slice Ao50 x4_1.length co50, .slice Ao49 y271.length co49] rfl (by (try simp only [List.map_toArray, List.map_cons, List.map_nil]); first | done | rfl | (simp only [List.length_drop, List.length_take]; rfl)) ?_; (with_reducible refine (spec_l01Join.calls k3 _ _ x4_1 _ _ y271 t274 _ ?side1 ?side2 ?side3 ?side4 A38.out).mono ?_); (case side1 => repeat (first | exact (Kd.R_reads' HO_4.out).2.2 | (with_reducible refine Kd.C_alloc ?_ _) | (with_reducible refine Kd.C_drewN ?_ _) | (with_reducible refine Kd.C_drew ?_))); (case side2 => exact (Kd.R_reads' HO_4.out).2.1); (case side3 => repeat (first | exact (Kd.R_reads' HO273.out).2.2 | (with_reducible refine Kd.C_alloc ?_ _) | (with_reducible refine Kd.C_drewN ?_ _) | (with_reducible refine Kd.C_drew ?_))); (case side4 => exact (Kd.R_reads' HO273.out).2.1); rintro e w51 ⟨v275, rfl, ho0, hb⟩; refine ⟨_, rfl, ?_⟩; have n0_ := Aside0.mk (Kd.R_elder' (by (with_reducible repeat (first | apply Kd.R_alloc | apply Kd.R_drewN | apply Kd.R_drew)); exact HO_4.out) (Kd.R_base ho0) hb); have n1_ := Aside0.mk (Kd.R_elder' (by (with_reducible repeat (first | apply Kd.R_alloc | apply Kd.R_drewN | apply Kd.R_drew)); exact HO_7.out) (Kd.R_base ho0) hb); have n2_ := Aside0.mk (Kd.R_elder' (by (with_reducible repeat (first | apply Kd.R_alloc | apply Kd.R_drewN | apply Kd.R_drew)); exact HO263.out) (Kd.R_base ho0) hb); have n3_ := Aside0.mk (Kd.R_elder' (by (with_reducible repeat (first | apply Kd.R_alloc | apply Kd.R_drewN | apply Kd.R_drew)); exact HO270.out) (Kd.R_base ho0) hb); have n4_ := Aside0.mk (Kd.R_elder' (by (with_reducible repeat (first | apply Kd.R_alloc | apply Kd.R_drewN | apply Kd.R_drew)); exact HO273.out) (Kd.R_base ho0) hb); have n5_ := Aside0.mk (Kd.R_lower (Kd.R_new' (Kd.R_new' (Kd.R_new' (Kd.R_new' (Kd.R_new' ho0 (Kd.R_lt (by (with_reducible repeat (first | apply Kd.R_alloc | apply Kd.R_drewN | apply Kd.R_drew)); exact HO_4.out))) (Kd.R_lt (by (with_reducible repeat (first | apply Kd.R_alloc | apply Kd.R_drewN | apply Kd.R_drew)); exact HO_7.out))) (Kd.R_lt (by (with_reducible repeat (first | apply Kd.R_alloc | apply Kd.R_drewN | apply Kd.R_drew)); exact HO263.out))) (Kd.R_lt (by (with_reducible repeat (first | apply Kd.R_alloc | apply Kd.R_drewN | apply Kd.R_drew)); exact HO270.out))) (Kd.R_lt (by (with_reducible repeat (first | apply Kd.R_alloc | apply Kd.R_drewN | apply Kd.R_drew)); exact HO273.out))) (below_size (by repeat (first | (with_reducible first | exact HB.out | apply below_alloc | apply pw_below_drewN | apply below_drew1) | exact HB.out)))); have n6_ := Aside0.mk (below_step (by repeat (first | (with_reducible first | exact HB.out | apply below_alloc | apply pw_below_drewN | apply below_drew1) | exact HB.out)) hb); clear HO_4; clear HO_7; clear HO263; clear HO270; clear HO273; clear HB; have HO_4 := n0_; have HO_7 := n1_; have HO263 := n2_; have HO270 := n3_; have HO273 := n4_; have HO276 := n5_; have HB := n6_; clear n0_ n1_ n2_ n3_ n4_ n5_ n6_; (try clear hb); (try clear hb2); (try clear hk); (try clear hi); (try clear ho0)))
                      go_roundg k3
                      case measure => have := HK1.out; have := HJ4.out; have := HK3.out; omega
                      case rel => exact ⟨(t274), (wrap64 (x5_1 + 16)), (by first | rfl | (simp; done) | (simp [*]; done)), H', ⟨by have := HK1.out; have := HJ4.out; have := HK3.out; omega⟩, ⟨by (with_reducible repeat (first | apply Kd.R_alloc | apply Kd.R_drewN | apply Kd.R_drew)); exact Kd.R_mono HO276.out (fun _ hk => trivial)⟩, ⟨by repeat (first | (with_reducible first | exact HB.out | apply below_alloc | apply pw_below_drewN | apply below_drew1) | exact HB.out)⟩⟩
                  · rw [if_neg c24] at H
                    exact absurd H (by simp)
      · rw [if_neg c4] at H
        have c4b0 : decide (x5_1 < (l0.length : Int)) = false := decide_eq_false c4
        clear c4
        simp only [Option.some.injEq, Prod.mk.injEq] at H
        obtain ⟨rfl, rfl⟩ := H
        go_wp2
        go_ret2
        exact ⟨_, by first | rfl | (simp [errW_none, errW_some] <;> rfl) | (simp [*, errW_none, errW_some] <;> rfl), by (with_reducible repeat (first | apply Kd.R_alloc | apply Kd.R_drewN | apply Kd.R_drew)); exact HO_4.out, by repeat (first | (with_reducible first | exact HB.out | apply below_alloc | apply pw_below_drewN | apply below_drew1) | exact HB.out)⟩

/-! ### spec_UnpackOp: function 10 (by hand) -/
theorem in_tells (a b c : Int) : spec_l01In.f a b c = some (decide (b ≤ a ∧ a ≤ c)) := by
  unfold spec_l01In.f
  by_cases h : b ≤ a <;> simp [h]
theorem specHasX_tells (a : Int) : spec_l17HasX.f a = some (decide (1 ≤ a ∧ a ≤ 3)) := by unfold spec_l17HasX.f; rw [in_tells]; rfl
theorem specWorker_tells (a : Int) : spec_l10Worker.f a = some (decide (0 ≤ a ∧ a ≤ 4)) := by unfold spec_l10Worker.f; rw [in_tells]; rfl
theorem specOpOk_tells (k : Nat) (hk : 0 < k) (a t x : Int) : spec_OpOk.f k a t x = some (opB a t x) := by
  obtain ⟨k, rfl⟩ : ∃ m, k = m + 1 := ⟨k - 1, by omega⟩
  unfold spec_OpOk.f
  simp only [in_tells, specHasX_tells, specWorker_tells, Option.bind_some, spec_OpOk.j0, opB]
  simp only [decide_eq_true_eq, reduceIte, Bool.false_eq_true, bne_iff_ne, ne_eq]
  (repeat' split) <;> first | (simp only [Option.some.injEq, decide_eq_decide]; omega) | (symm; simp only [Option.some.injEq, decide_eq_false_iff_not]; omega) | (simp_all; done) | (simp_all; omega) | (rw [Option.some.injEq, eq_comm, Bool.eq_iff_iff]; simp; omega)

set_option maxHeartbeats 8000000 in
set_option maxRecDepth 100000 in
theorem spec_UnpackOp.u_low (A0 : Option Addr) (c0 : Nat) (l0 : List Int) (a1 : Int) (w : World) (hr0 : Kd.C (Kd.int .u8) w A0 l0.length l0) (hc0 : l0.length ≤ c0) (h : a1 < 0) :
    Calls Try.prog 10 #[.slice A0 l0.length c0, .int .i64 a1] w fun e w' => e = .returned (.tuple #[.agg #[.int .i64 0, .int .i64 0, .int .i64 0], .int .i64 (-1)]) ∧ Below w.heap.size w w' := by
  have hu24 := Try.underlying24
  have hl := Kd.C_max hr0
  have FX := Aside0.mk (YtimlccgpeoaigaaX.Fx.start w)
  have hb : decide (a1 < 0) = true := decide_eq_true h
  go_enter Try.func10, Try.ntmps10
  go_wp2_with (first | ((with_reducible refine gate_dst (N := 4) rfl ?_); refine box_event ?hg (N := 4) ?hd (cs := #[.int .i64 0, .int .i64 0, .int .i64 0]) (t := 24) ?hr ?_; (case hd => rfl); (case hg => rfl); (case hr => first | (go_simp; done) | (go_simp; rfl)); intro g4 e3 w2 k4 b5; have FX1 := Aside0.mk (FX.out.alloc e3 k4 b5); clear e3 k4 b5; clear FX; have hcg4_0 := FX1.out.cell 0 0 rfl rfl; have hfg4_0 := FX1.out.free 0 0 rfl; have hcg4_1 := FX1.out.cell 0 1 rfl rfl; have hfg4_1 := FX1.out.free 0 1 rfl; have hcg4_2 := FX1.out.cell 0 2 rfl rfl; have hfg4_2 := FX1.out.free 0 2 rfl) | ((with_reducible refine gate_store (t := 24) (p := 4) rfl ?_); refine store_event (t := 24) (p := 4) (v := ?vo_w7) (w1 := (((w2.setCell ⟨g4, 0, none⟩ (.int .i64 0)).setCell ⟨g4, 1, none⟩ (.int .i64 0)).setCell ⟨g4, 2, none⟩ (.int .i64 0))) ?hg ?ho ?hn ?hr ?_; (case ho => rfl); (case hg => rfl); (case hn => rfl); (case hr => first | (go_simp; done) | (go_simp; rfl)); intro w7 e8; have FX6 : Aside0 (YtimlccgpeoaigaaX.Fx w w7 [YtimlccgpeoaigaaX.blk g4 24 #[.int .i64 0, .int .i64 0, .int .i64 0]]) := ⟨by rw [e8]; exact (((FX1.out.store 0 rfl 0 (.int .i64 0) #[.int .i64 0, .int .i64 0, .int .i64 0] rfl).store 0 rfl 1 (.int .i64 0) #[.int .i64 0, .int .i64 0, .int .i64 0] rfl).store 0 rfl 2 (.int .i64 0) #[.int .i64 0, .int .i64 0, .int .i64 0] rfl)⟩; clear e8; clear FX1; clear hcg4_0 hfg4_0 hcg4_1 hfg4_1 hcg4_2 hfg4_2; have hcg4_0 := FX6.out.cell 0 0 rfl rfl; have hfg4_0 := FX6.out.free 0 0 rfl; have hcg4_1 := FX6.out.cell 0 1 rfl rfl; have hfg4_1 := FX6.out.free 0 1 rfl; have hcg4_2 := FX6.out.cell 0 2 rfl rfl; have hfg4_2 := FX6.out.free 0 2 rfl))
  exact bodyPost_ret (results_ct rfl _ _ g4 24 #[.int .i64 0, .int .i64 0, .int .i64 0] (0, 0) _ rfl (FX6.out.blkOf 0 rfl) Try.underlying24 rfl (by kernel_rfl)) rfl ⟨rfl, FX6.out.below⟩
set_option maxHeartbeats 8000000 in
set_option maxRecDepth 100000 in
theorem spec_UnpackOp.u_high (A0 : Option Addr) (c0 : Nat) (l0 : List Int) (a1 : Int) (w : World) (hr0 : Kd.C (Kd.int .u8) w A0 l0.length l0) (hc0 : l0.length ≤ c0) (h0 : 0 ≤ a1) (h : (l0.length : Int) ≤ a1) :
    Calls Try.prog 10 #[.slice A0 l0.length c0, .int .i64 a1] w fun e w' => e = .returned (.tuple #[.agg #[.int .i64 0, .int .i64 0, .int .i64 0], .int .i64 (-1)]) ∧ Below w.heap.size w w' := by
  have hu24 := Try.underlying24
  have hl := Kd.C_max hr0
  have FX := Aside0.mk (YtimlccgpeoaigaaX.Fx.start w)
  have hb : decide (a1 < 0) = false := decide_eq_false (by omega)
  have hb2 : decide ((l0.length : Int) ≤ a1) = true := decide_eq_true h
  go_enter Try.func10, Try.ntmps10
  go_wp2_with (first | ((with_reducible refine gate_dst (N := 4) rfl ?_); refine box_event ?hg (N := 4) ?hd (cs := #[.int .i64 0, .int .i64 0, .int .i64 0]) (t := 24) ?hr ?_; (case hd => rfl); (case hg => rfl); (case hr => first | (go_simp; done) | (go_simp; rfl)); intro g4 e3 w2 k4 b5; have FX1 := Aside0.mk (FX.out.alloc e3 k4 b5); clear e3 k4 b5; clear FX; have hcg4_0 := FX1.out.cell 0 0 rfl rfl; have hfg4_0 := FX1.out.free 0 0 rfl; have hcg4_1 := FX1.out.cell 0 1 rfl rfl; have hfg4_1 := FX1.out.free 0 1 rfl; have hcg4_2 := FX1.out.cell 0 2 rfl rfl; have hfg4_2 := FX1.out.free 0 2 rfl) | ((with_reducible refine gate_store (t := 24) (p := 4) rfl ?_); refine store_event (t := 24) (p := 4) (v := ?vo_w7) (w1 := (((w2.setCell ⟨g4, 0, none⟩ (.int .i64 0)).setCell ⟨g4, 1, none⟩ (.int .i64 0)).setCell ⟨g4, 2, none⟩ (.int .i64 0))) ?hg ?ho ?hn ?hr ?_; (case ho => rfl); (case hg => rfl); (case hn => rfl); (case hr => first | (go_simp; done) | (go_simp; rfl)); intro w7 e8; have FX6 : Aside0 (YtimlccgpeoaigaaX.Fx w w7 [YtimlccgpeoaigaaX.blk g4 24 #[.int .i64 0, .int .i64 0, .int .i64 0]]) := ⟨by rw [e8]; exact (((FX1.out.store 0 rfl 0 (.int .i64 0) #[.int .i64 0, .int .i64 0, .int .i64 0] rfl).store 0 rfl 1 (.int .i64 0) #[.int .i64 0, .int .i64 0, .int .i64 0] rfl).store 0 rfl 2 (.int .i64 0) #[.int .i64 0, .int .i64 0, .int .i64 0] rfl)⟩; clear e8; clear FX1; clear hcg4_0 hfg4_0 hcg4_1 hfg4_1 hcg4_2 hfg4_2; have hcg4_0 := FX6.out.cell 0 0 rfl rfl; have hfg4_0 := FX6.out.free 0 0 rfl; have hcg4_1 := FX6.out.cell 0 1 rfl rfl; have hfg4_1 := FX6.out.free 0 1 rfl; have hcg4_2 := FX6.out.cell 0 2 rfl rfl; have hfg4_2 := FX6.out.free 0 2 rfl))
  exact bodyPost_ret (results_ct rfl _ _ g4 24 #[.int .i64 0, .int .i64 0, .int .i64 0] (0, 0) _ rfl (FX6.out.blkOf 0 rfl) Try.underlying24 rfl (by kernel_rfl)) rfl ⟨rfl, FX6.out.below⟩
set_option maxHeartbeats 8000000 in
set_option maxRecDepth 100000 in
theorem spec_UnpackOp.u_short (A0 : Option Addr) (c0 : Nat) (l0 : List Int) (a1 : Int) (w : World) (hr0 : Kd.C (Kd.int .u8) w A0 l0.length l0) (hc0 : l0.length ≤ c0) (h0 : 0 ≤ a1) (h1 : a1 < (l0.length : Int)) (hkd : decide (1 ≤ wrap64 (Int.tdiv (wrap64 (rd l0 a1)) 5) ∧ wrap64 (Int.tdiv (wrap64 (rd l0 a1)) 5) ≤ 3) = true) (h2 : ¬ a1 + 1 < (l0.length : Int)) :
    Calls Try.prog 10 #[.slice A0 l0.length c0, .int .i64 a1] w fun e w' => e = .returned (.tuple #[.agg #[.int .i64 0, .int .i64 0, .int .i64 0], .int .i64 (-1)]) ∧ Below w.heap.size w w' := by
  have hu24 := Try.underlying24
  have hl := Kd.C_max hr0
  have FX := Aside0.mk (YtimlccgpeoaigaaX.Fx.start w)
  obtain ⟨ad, e0, hx⟩ := Kd.at_int hr0 a1 h0 h1
  subst e0
  have HX := Aside0.mk hx
  clear hx
  have q1 : decide (a1 < 0) = false := decide_eq_false (by omega)
  have q2 : decide ((l0.length : Int) ≤ a1) = false := decide_eq_false (by omega)
  have q3 : decide ((l0.length : Int) ≤ a1 + 1) = true := decide_eq_true (by omega)
  go_enter Try.func10, Try.ntmps10
  go_wp2_with ((with_reducible refine gate_dst (N := 4) rfl ?_); refine box_event ?hg (N := 4) ?hd (cs := #[.int .i64 0, .int .i64 0, .int .i64 0]) (t := 24) ?hr ?_; (case hd => rfl); (case hg => rfl); (case hr => first | (go_simp; done) | (go_simp; rfl)); intro g4 e3 w2 k4 b5; have FX1 := Aside0.mk (FX.out.alloc e3 k4 b5); clear e3 k4 b5; clear FX; have hcg4_0 := FX1.out.cell 0 0 rfl rfl; have hfg4_0 := FX1.out.free 0 0 rfl; have hcg4_1 := FX1.out.cell 0 1 rfl rfl; have hfg4_1 := FX1.out.free 0 1 rfl; have hcg4_2 := FX1.out.cell 0 2 rfl rfl; have hfg4_2 := FX1.out.free 0 2 rfl; have hx := FX1.out.old HX.out; have hx2 := fun o => pw_cell_below (below_alloc (Below.refl w2.heap.size w2) o) hx)
  go_region
  clear hx2
  clear hcg4_0 hfg4_0 hcg4_1 hfg4_1 hcg4_2 hfg4_2 hx
  refine YtimlccgpeoaigaaV.gen_then (p := fun W' => ∃ g6, YtimlccgpeoaigaaX.Fx w W' [YtimlccgpeoaigaaX.blk g6 24 #[.int .i64 (wrap64 (Int.tdiv (wrap64 (rd l0 a1)) 5)), .int .i64 (Int.tmod (wrap64 (rd l0 a1)) 5), .int .i64 0], YtimlccgpeoaigaaX.blk g4 24 #[.int .i64 0, .int .i64 0, .int .i64 0]] ∧ g6 = w2.heap.size) ⟨_, (FX1.out.alloc rfl (blk_new _ _) (below_alloc (Below.refl _ _) _)).drew, rfl⟩ ?_
  rintro w6 ⟨g6, fx6, e6⟩
  rw [← e6]
  have FXR := Aside0.mk fx6
  clear fx6 e6 FX1
  have hcg6_0 := FXR.out.cell 0 0 rfl rfl
  have hfg6_0 := FXR.out.free 0 0 rfl
  have hcg6_1 := FXR.out.cell 0 1 rfl rfl
  have hfg6_1 := FXR.out.free 0 1 rfl
  have hcg6_2 := FXR.out.cell 0 2 rfl rfl
  have hfg6_2 := FXR.out.free 0 2 rfl
  have hcg4_0 := FXR.out.cell 1 0 rfl rfl
  have hfg4_0 := FXR.out.free 1 0 rfl
  have hcg4_1 := FXR.out.cell 1 1 rfl rfl
  have hfg4_1 := FXR.out.free 1 1 rfl
  have hcg4_2 := FXR.out.cell 1 2 rfl rfl
  have hfg4_2 := FXR.out.free 1 2 rfl
  have hx := FXR.out.old HX.out
  go_wp2_with (first | (go_at_call 36; (with_reducible refine (spec_l17HasX.calls _ true _ (by rw [specHasX_tells]; exact congrArg some hkd)).mono ?_); rintro e w7 ⟨rfl, b8⟩; have FX6 := Aside0.mk (FXR.out.call b8.below); clear b8; clear FXR; clear hcg6_0 hfg6_0 hcg6_1 hfg6_1 hcg6_2 hfg6_2 hcg4_0 hfg4_0 hcg4_1 hfg4_1 hcg4_2 hfg4_2 hx; have hcg6_0 := FX6.out.cell 0 0 rfl rfl; have hfg6_0 := FX6.out.free 0 0 rfl; have hcg6_1 := FX6.out.cell 0 1 rfl rfl; have hfg6_1 := FX6.out.free 0 1 rfl; have hcg6_2 := FX6.out.cell 0 2 rfl rfl; have hfg6_2 := FX6.out.free 0 2 rfl; have hcg4_0 := FX6.out.cell 1 0 rfl rfl; have hfg4_0 := FX6.out.free 1 0 rfl; have hcg4_1 := FX6.out.cell 1 1 rfl rfl; have hfg4_1 := FX6.out.free 1 1 rfl; have hcg4_2 := FX6.out.cell 1 2 rfl rfl; have hfg4_2 := FX6.out.free 1 2 rfl; have hx := FX6.out.old HX.out) | ((with_reducible refine gate_store (t := 24) (p := 4) rfl ?_); refine store_event (t := 24) (p := 4) (v := ?vo_w10) (w1 := (((w7.setCell ⟨g4, 0, none⟩ (.int .i64 0)).setCell ⟨g4, 1, none⟩ (.int .i64 0)).setCell ⟨g4, 2, none⟩ (.int .i64 0))) ?hg ?ho ?hn ?hr ?_; (case ho => rfl); (case hg => rfl); (case hn => rfl); (case hr => first | (go_simp; done) | (go_simp; rfl)); intro w10 e11; have FX9 : Aside0 (YtimlccgpeoaigaaX.Fx w w10 [YtimlccgpeoaigaaX.blk g6 24 #[.int .i64 (wrap64 (Int.tdiv (wrap64 (rd l0 a1)) 5)), .int .i64 (Int.tmod (wrap64 (rd l0 a1)) 5), .int .i64 0], YtimlccgpeoaigaaX.blk g4 24 #[.int .i64 0, .int .i64 0, .int .i64 0]]) := ⟨by rw [e11]; exact (((FX6.out.store 1 rfl 0 (.int .i64 0) #[.int .i64 0, .int .i64 0, .int .i64 0] rfl).store 1 rfl 1 (.int .i64 0) #[.int .i64 0, .int .i64 0, .int .i64 0] rfl).store 1 rfl 2 (.int .i64 0) #[.int .i64 0, .int .i64 0, .int .i64 0] rfl)⟩; clear e11; clear FX6; clear hcg6_0 hfg6_0 hcg6_1 hfg6_1 hcg6_2 hfg6_2 hcg4_0 hfg4_0 hcg4_1 hfg4_1 hcg4_2 hfg4_2 hx; have hcg6_0 := FX9.out.cell 0 0 rfl rfl; have hfg6_0 := FX9.out.free 0 0 rfl; have hcg6_1 := FX9.out.cell 0 1 rfl rfl; have hfg6_1 := FX9.out.free 0 1 rfl; have hcg6_2 := FX9.out.cell 0 2 rfl rfl; have hfg6_2 := FX9.out.free 0 2 rfl; have hcg4_0 := FX9.out.cell 1 0 rfl rfl; have hfg4_0 := FX9.out.free 1 0 rfl; have hcg4_1 := FX9.out.cell 1 1 rfl rfl; have hfg4_1 := FX9.out.free 1 1 rfl; have hcg4_2 := FX9.out.cell 1 2 rfl rfl; have hfg4_2 := FX9.out.free 1 2 rfl; have hx := FX9.out.old HX.out))
  exact bodyPost_ret (results_ct rfl _ _ g4 24 #[.int .i64 0, .int .i64 0, .int .i64 0] (0, 0) _ rfl (FX9.out.blkOf 1 rfl) Try.underlying24 rfl (by kernel_rfl)) rfl ⟨rfl, FX9.out.below⟩
set_option maxHeartbeats 8000000 in
set_option maxRecDepth 100000 in
theorem spec_UnpackOp.u_two_true (A0 : Option Addr) (c0 : Nat) (l0 : List Int) (a1 : Int) (w : World) (hr0 : Kd.C (Kd.int .u8) w A0 l0.length l0) (hc0 : l0.length ≤ c0) (h0 : 0 ≤ a1) (h1 : a1 < (l0.length : Int)) (hkd : decide (1 ≤ wrap64 (Int.tdiv (wrap64 (rd l0 a1)) 5) ∧ wrap64 (Int.tdiv (wrap64 (rd l0 a1)) 5) ≤ 3) = true) (h2 : a1 + 1 < (l0.length : Int)) (hok : opB (wrap64 (Int.tdiv (wrap64 (rd l0 a1)) 5)) (Int.tmod (wrap64 (rd l0 a1)) 5) (wrap64 (rd l0 (a1 + 1))) = true) :
    Calls Try.prog 10 #[.slice A0 l0.length c0, .int .i64 a1] w fun e w' => e = .returned (.tuple #[.agg #[.int .i64 (wrap64 (Int.tdiv (wrap64 (rd l0 a1)) 5)), .int .i64 (Int.tmod (wrap64 (rd l0 a1)) 5), .int .i64 (wrap64 (rd l0 (a1 + 1)))], .int .i64 (a1 + 1 + 1)]) ∧ Below w.heap.size w w' := by
  have hu24 := Try.underlying24
  have hl := Kd.C_max hr0
  have FX := Aside0.mk (YtimlccgpeoaigaaX.Fx.start w)
  obtain ⟨ad, e0, hx⟩ := Kd.at_int hr0 a1 h0 h1
  obtain ⟨ad', e1, hy⟩ := Kd.at_int hr0 (a1 + 1) (by omega) h2
  obtain rfl : ad = ad' := by rw [e0] at e1; injection e1
  subst e0
  have HX := Aside0.mk hx
  clear hx
  have HY := Aside0.mk hy
  clear hy
  have q1 : decide (a1 < 0) = false := decide_eq_false (by omega)
  have q2 : decide ((l0.length : Int) ≤ a1) = false := decide_eq_false (by omega)
  have q3 : decide ((l0.length : Int) ≤ a1 + 1) = false := decide_eq_false (by omega)
  go_enter Try.func10, Try.ntmps10
  go_wp2_with ((with_reducible refine gate_dst (N := 4) rfl ?_); refine box_event ?hg (N := 4) ?hd (cs := #[.int .i64 0, .int .i64 0, .int .i64 0]) (t := 24) ?hr ?_; (case hd => rfl); (case hg => rfl); (case hr => first | (go_simp; done) | (go_simp; rfl)); intro g4 e3 w2 k4 b5; have FX1 := Aside0.mk (FX.out.alloc e3 k4 b5); clear e3 k4 b5; clear FX; have hcg4_0 := FX1.out.cell 0 0 rfl rfl; have hfg4_0 := FX1.out.free 0 0 rfl; have hcg4_1 := FX1.out.cell 0 1 rfl rfl; have hfg4_1 := FX1.out.free 0 1 rfl; have hcg4_2 := FX1.out.cell 0 2 rfl rfl; have hfg4_2 := FX1.out.free 0 2 rfl; have hx := FX1.out.old HX.out; have hy := FX1.out.old HY.out; have hx2 := fun o => pw_cell_below (below_alloc (Below.refl w2.heap.size w2) o) hx)
  go_region
  clear hx2
  clear hcg4_0 hfg4_0 hcg4_1 hfg4_1 hcg4_2 hfg4_2 hx hy
  refine YtimlccgpeoaigaaV.gen_then (p := fun W' => ∃ g6, YtimlccgpeoaigaaX.Fx w W' [YtimlccgpeoaigaaX.blk g6 24 #[.int .i64 (wrap64 (Int.tdiv (wrap64 (rd l0 a1)) 5)), .int .i64 (Int.tmod (wrap64 (rd l0 a1)) 5), .int .i64 0], YtimlccgpeoaigaaX.blk g4 24 #[.int .i64 0, .int .i64 0, .int .i64 0]] ∧ g6 = w2.heap.size) ⟨_, (FX1.out.alloc rfl (blk_new _ _) (below_alloc (Below.refl _ _) _)).drew, rfl⟩ ?_
  rintro w6 ⟨g6, fx6, e6⟩
  rw [← e6]
  have FXR := Aside0.mk fx6
  clear fx6 e6 FX1
  have hcg6_0 := FXR.out.cell 0 0 rfl rfl
  have hfg6_0 := FXR.out.free 0 0 rfl
  have hcg6_1 := FXR.out.cell 0 1 rfl rfl
  have hfg6_1 := FXR.out.free 0 1 rfl
  have hcg6_2 := FXR.out.cell 0 2 rfl rfl
  have hfg6_2 := FXR.out.free 0 2 rfl
  have hcg4_0 := FXR.out.cell 1 0 rfl rfl
  have hfg4_0 := FXR.out.free 1 0 rfl
  have hcg4_1 := FXR.out.cell 1 1 rfl rfl
  have hfg4_1 := FXR.out.free 1 1 rfl
  have hcg4_2 := FXR.out.cell 1 2 rfl rfl
  have hfg4_2 := FXR.out.free 1 2 rfl
  have hx := FXR.out.old HX.out
  have hy := FXR.out.old HY.out
  go_wp2_with (first | (go_at_call 36; (with_reducible refine (spec_l17HasX.calls _ true _ (by rw [specHasX_tells]; exact congrArg some hkd)).mono ?_); rintro e w7 ⟨rfl, b8⟩; have FX6 := Aside0.mk (FXR.out.call b8.below); clear b8; clear FXR; clear hcg6_0 hfg6_0 hcg6_1 hfg6_1 hcg6_2 hfg6_2 hcg4_0 hfg4_0 hcg4_1 hfg4_1 hcg4_2 hfg4_2 hx hy; have hcg6_0 := FX6.out.cell 0 0 rfl rfl; have hfg6_0 := FX6.out.free 0 0 rfl; have hcg6_1 := FX6.out.cell 0 1 rfl rfl; have hfg6_1 := FX6.out.free 0 1 rfl; have hcg6_2 := FX6.out.cell 0 2 rfl rfl; have hfg6_2 := FX6.out.free 0 2 rfl; have hcg4_0 := FX6.out.cell 1 0 rfl rfl; have hfg4_0 := FX6.out.free 1 0 rfl; have hcg4_1 := FX6.out.cell 1 1 rfl rfl; have hfg4_1 := FX6.out.free 1 1 rfl; have hcg4_2 := FX6.out.cell 1 2 rfl rfl; have hfg4_2 := FX6.out.free 1 2 rfl; have hx := FX6.out.old HX.out; have hy := FX6.out.old HY.out) | ((with_reducible refine gate_store (t := 3) (p := 45) rfl ?_); refine store_event (t := 3) (p := 45) (v := ?vo_w10) (w1 := (w7.setCell ⟨g6, 2, none⟩ (.int .i64 (wrap64 (rd l0 (a1 + 1)))))) ?hg ?ho ?hn ?hr ?_; (case ho => rfl); (case hg => rfl); (case hn => rfl); (case hr => first | (go_simp; done) | (go_simp; rfl)); intro w10 e11; have FX9 : Aside0 (YtimlccgpeoaigaaX.Fx w w10 [YtimlccgpeoaigaaX.blk g6 24 #[.int .i64 (wrap64 (Int.tdiv (wrap64 (rd l0 a1)) 5)), .int .i64 (Int.tmod (wrap64 (rd l0 a1)) 5), .int .i64 (wrap64 (rd l0 (a1 + 1)))], YtimlccgpeoaigaaX.blk g4 24 #[.int .i64 0, .int .i64 0, .int .i64 0]]) := ⟨by rw [e11]; exact (FX6.out.store 0 rfl 2 (.int .i64 (wrap64 (rd l0 (a1 + 1)))) #[.int .i64 (wrap64 (Int.tdiv (wrap64 (rd l0 a1)) 5)), .int .i64 (Int.tmod (wrap64 (rd l0 a1)) 5), .int .i64 (wrap64 (rd l0 (a1 + 1)))] rfl)⟩; clear e11; clear FX6; clear hcg6_0 hfg6_0 hcg6_1 hfg6_1 hcg6_2 hfg6_2 hcg4_0 hfg4_0 hcg4_1 hfg4_1 hcg4_2 hfg4_2 hx hy; have hcg6_0 := FX9.out.cell 0 0 rfl rfl; have hfg6_0 := FX9.out.free 0 0 rfl; have hcg6_1 := FX9.out.cell 0 1 rfl rfl; have hfg6_1 := FX9.out.free 0 1 rfl; have hcg6_2 := FX9.out.cell 0 2 rfl rfl; have hfg6_2 := FX9.out.free 0 2 rfl; have hcg4_0 := FX9.out.cell 1 0 rfl rfl; have hfg4_0 := FX9.out.free 1 0 rfl; have hcg4_1 := FX9.out.cell 1 1 rfl rfl; have hfg4_1 := FX9.out.free 1 1 rfl; have hcg4_2 := FX9.out.cell 1 2 rfl rfl; have hfg4_2 := FX9.out.free 1 2 rfl; have hx := FX9.out.old HX.out; have hy := FX9.out.old HY.out) | (go_at_call 37; (with_reducible refine (spec_OpOk.calls 1 (wrap64 (Int.tdiv (wrap64 (rd l0 a1)) 5)) (Int.tmod (wrap64 (rd l0 a1)) 5) (wrap64 (rd l0 (a1 + 1))) true _ (by rw [specOpOk_tells 1 (by omega)]; exact congrArg some hok)).mono ?_); rintro e w13 ⟨rfl, b14⟩; have FX12 := Aside0.mk (FX9.out.call b14); clear b14; clear FX9; clear hcg6_0 hfg6_0 hcg6_1 hfg6_1 hcg6_2 hfg6_2 hcg4_0 hfg4_0 hcg4_1 hfg4_1 hcg4_2 hfg4_2 hx hy; have hcg6_0 := FX12.out.cell 0 0 rfl rfl; have hfg6_0 := FX12.out.free 0 0 rfl; have hcg6_1 := FX12.out.cell 0 1 rfl rfl; have hfg6_1 := FX12.out.free 0 1 rfl; have hcg6_2 := FX12.out.cell 0 2 rfl rfl; have hfg6_2 := FX12.out.free 0 2 rfl; have hcg4_0 := FX12.out.cell 1 0 rfl rfl; have hfg4_0 := FX12.out.free 1 0 rfl; have hcg4_1 := FX12.out.cell 1 1 rfl rfl; have hfg4_1 := FX12.out.free 1 1 rfl; have hcg4_2 := FX12.out.cell 1 2 rfl rfl; have hfg4_2 := FX12.out.free 1 2 rfl; have hx := FX12.out.old HX.out; have hy := FX12.out.old HY.out) | ((with_reducible refine gate_store (t := 24) (p := 4) rfl ?_); refine store_event (t := 24) (p := 4) (v := ?vo_w16) (w1 := (((w13.setCell ⟨g4, 0, none⟩ (.int .i64 (wrap64 (Int.tdiv (wrap64 (rd l0 a1)) 5)))).setCell ⟨g4, 1, none⟩ (.int .i64 (Int.tmod (wrap64 (rd l0 a1)) 5))).setCell ⟨g4, 2, none⟩ (.int .i64 (wrap64 (rd l0 (a1 + 1)))))) ?hg ?ho ?hn ?hr ?_; (case ho => rfl); (case hg => rfl); (case hn => rfl); (case hr => first | (go_simp; done) | (go_simp; rfl)); intro w16 e17; have FX15 : Aside0 (YtimlccgpeoaigaaX.Fx w w16 [YtimlccgpeoaigaaX.blk g6 24 #[.int .i64 (wrap64 (Int.tdiv (wrap64 (rd l0 a1)) 5)), .int .i64 (Int.tmod (wrap64 (rd l0 a1)) 5), .int .i64 (wrap64 (rd l0 (a1 + 1)))], YtimlccgpeoaigaaX.blk g4 24 #[.int .i64 (wrap64 (Int.tdiv (wrap64 (rd l0 a1)) 5)), .int .i64 (Int.tmod (wrap64 (rd l0 a1)) 5), .int .i64 (wrap64 (rd l0 (a1 + 1)))]]) := ⟨by rw [e17]; exact (((FX12.out.store 1 rfl 0 (.int .i64 (wrap64 (Int.tdiv (wrap64 (rd l0 a1)) 5))) #[.int .i64 (wrap64 (Int.tdiv (wrap64 (rd l0 a1)) 5)), .int .i64 0, .int .i64 0] rfl).store 1 rfl 1 (.int .i64 (Int.tmod (wrap64 (rd l0 a1)) 5)) #[.int .i64 (wrap64 (Int.tdiv (wrap64 (rd l0 a1)) 5)), .int .i64 (Int.tmod (wrap64 (rd l0 a1)) 5), .int .i64 0] rfl).store 1 rfl 2 (.int .i64 (wrap64 (rd l0 (a1 + 1)))) #[.int .i64 (wrap64 (Int.tdiv (wrap64 (rd l0 a1)) 5)), .int .i64 (Int.tmod (wrap64 (rd l0 a1)) 5), .int .i64 (wrap64 (rd l0 (a1 + 1)))] rfl)⟩; clear e17; clear FX12; clear hcg6_0 hfg6_0 hcg6_1 hfg6_1 hcg6_2 hfg6_2 hcg4_0 hfg4_0 hcg4_1 hfg4_1 hcg4_2 hfg4_2 hx hy; have hcg6_0 := FX15.out.cell 0 0 rfl rfl; have hfg6_0 := FX15.out.free 0 0 rfl; have hcg6_1 := FX15.out.cell 0 1 rfl rfl; have hfg6_1 := FX15.out.free 0 1 rfl; have hcg6_2 := FX15.out.cell 0 2 rfl rfl; have hfg6_2 := FX15.out.free 0 2 rfl; have hcg4_0 := FX15.out.cell 1 0 rfl rfl; have hfg4_0 := FX15.out.free 1 0 rfl; have hcg4_1 := FX15.out.cell 1 1 rfl rfl; have hfg4_1 := FX15.out.free 1 1 rfl; have hcg4_2 := FX15.out.cell 1 2 rfl rfl; have hfg4_2 := FX15.out.free 1 2 rfl; have hx := FX15.out.old HX.out; have hy := FX15.out.old HY.out))
  exact bodyPost_ret (results_ct rfl _ _ g4 24 #[.int .i64 (wrap64 (Int.tdiv (wrap64 (rd l0 a1)) 5)), .int .i64 (Int.tmod (wrap64 (rd l0 a1)) 5), .int .i64 (wrap64 (rd l0 (a1 + 1)))] (0, 0) _ rfl (FX15.out.blkOf 1 rfl) Try.underlying24 rfl (by kernel_rfl)) rfl ⟨rfl, FX15.out.below⟩
set_option maxHeartbeats 8000000 in
set_option maxRecDepth 100000 in
theorem spec_UnpackOp.u_one_true (A0 : Option Addr) (c0 : Nat) (l0 : List Int) (a1 : Int) (w : World) (hr0 : Kd.C (Kd.int .u8) w A0 l0.length l0) (hc0 : l0.length ≤ c0) (h0 : 0 ≤ a1) (h1 : a1 < (l0.length : Int)) (hkd : decide (1 ≤ wrap64 (Int.tdiv (wrap64 (rd l0 a1)) 5) ∧ wrap64 (Int.tdiv (wrap64 (rd l0 a1)) 5) ≤ 3) = false) (hok : opB (wrap64 (Int.tdiv (wrap64 (rd l0 a1)) 5)) (Int.tmod (wrap64 (rd l0 a1)) 5) 0 = true) :
    Calls Try.prog 10 #[.slice A0 l0.length c0, .int .i64 a1] w fun e w' => e = .returned (.tuple #[.agg #[.int .i64 (wrap64 (Int.tdiv (wrap64 (rd l0 a1)) 5)), .int .i64 (Int.tmod (wrap64 (rd l0 a1)) 5), .int .i64 0], .int .i64 (a1 + 1)]) ∧ Below w.heap.size w w' := by
  have hu24 := Try.underlying24
  have hl := Kd.C_max hr0
  have FX := Aside0.mk (YtimlccgpeoaigaaX.Fx.start w)
  obtain ⟨ad, e0, hx⟩ := Kd.at_int hr0 a1 h0 h1
  subst e0
  have HX := Aside0.mk hx
  clear hx
  have q1 : decide (a1 < 0) = false := decide_eq_false (by omega)
  have q2 : decide ((l0.length : Int) ≤ a1) = false := decide_eq_false (by omega)
  go_enter Try.func10, Try.ntmps10
  go_wp2_with ((with_reducible refine gate_dst (N := 4) rfl ?_); refine box_event ?hg (N := 4) ?hd (cs := #[.int .i64 0, .int .i64 0, .int .i64 0]) (t := 24) ?hr ?_; (case hd => rfl); (case hg => rfl); (case hr => first | (go_simp; done) | (go_simp; rfl)); intro g4 e3 w2 k4 b5; have FX1 := Aside0.mk (FX.out.alloc e3 k4 b5); clear e3 k4 b5; clear FX; have hcg4_0 := FX1.out.cell 0 0 rfl rfl; have hfg4_0 := FX1.out.free 0 0 rfl; have hcg4_1 := FX1.out.cell 0 1 rfl rfl; have hfg4_1 := FX1.out.free 0 1 rfl; have hcg4_2 := FX1.out.cell 0 2 rfl rfl; have hfg4_2 := FX1.out.free 0 2 rfl; have hx := FX1.out.old HX.out; have hx2 := fun o => pw_cell_below (below_alloc (Below.refl w2.heap.size w2) o) hx)
  go_region
  clear hx2
  clear hcg4_0 hfg4_0 hcg4_1 hfg4_1 hcg4_2 hfg4_2 hx
  refine YtimlccgpeoaigaaV.gen_then (p := fun W' => ∃ g6, YtimlccgpeoaigaaX.Fx w W' [YtimlccgpeoaigaaX.blk g6 24 #[.int .i64 (wrap64 (Int.tdiv (wrap64 (rd l0 a1)) 5)), .int .i64 (Int.tmod (wrap64 (rd l0 a1)) 5), .int .i64 0], YtimlccgpeoaigaaX.blk g4 24 #[.int .i64 0, .int .i64 0, .int .i64 0]] ∧ g6 = w2.heap.size) ⟨_, (FX1.out.alloc rfl (blk_new _ _) (below_alloc (Below.refl _ _) _)).drew, rfl⟩ ?_
  rintro w6 ⟨g6, fx6, e6⟩
  rw [← e6]
  have FXR := Aside0.mk fx6
  clear fx6 e6 FX1
  have hcg6_0 := FXR.out.cell 0 0 rfl rfl
  have hfg6_0 := FXR.out.free 0 0 rfl
  have hcg6_1 := FXR.out.cell 0 1 rfl rfl
  have hfg6_1 := FXR.out.free 0 1 rfl
  have hcg6_2 := FXR.out.cell 0 2 rfl rfl
  have hfg6_2 := FXR.out.free 0 2 rfl
  have hcg4_0 := FXR.out.cell 1 0 rfl rfl
  have hfg4_0 := FXR.out.free 1 0 rfl
  have hcg4_1 := FXR.out.cell 1 1 rfl rfl
  have hfg4_1 := FXR.out.free 1 1 rfl
  have hcg4_2 := FXR.out.cell 1 2 rfl rfl
  have hfg4_2 := FXR.out.free 1 2 rfl
  have hx := FXR.out.old HX.out
  go_wp2_with (first | (go_at_call 36; (with_reducible refine (spec_l17HasX.calls _ false _ (by rw [specHasX_tells]; exact congrArg some hkd)).mono ?_); rintro e w7 ⟨rfl, b8⟩; have FX6 := Aside0.mk (FXR.out.call b8.below); clear b8; clear FXR; clear hcg6_0 hfg6_0 hcg6_1 hfg6_1 hcg6_2 hfg6_2 hcg4_0 hfg4_0 hcg4_1 hfg4_1 hcg4_2 hfg4_2 hx; have hcg6_0 := FX6.out.cell 0 0 rfl rfl; have hfg6_0 := FX6.out.free 0 0 rfl; have hcg6_1 := FX6.out.cell 0 1 rfl rfl; have hfg6_1 := FX6.out.free 0 1 rfl; have hcg6_2 := FX6.out.cell 0 2 rfl rfl; have hfg6_2 := FX6.out.free 0 2 rfl; have hcg4_0 := FX6.out.cell 1 0 rfl rfl; have hfg4_0 := FX6.out.free 1 0 rfl; have hcg4_1 := FX6.out.cell 1 1 rfl rfl; have hfg4_1 := FX6.out.free 1 1 rfl; have hcg4_2 := FX6.out.cell 1 2 rfl rfl; have hfg4_2 := FX6.out.free 1 2 rfl; have hx := FX6.out.old HX.out) | (go_at_call 37; (with_reducible refine (spec_OpOk.calls 1 (wrap64 (Int.tdiv (wrap64 (rd l0 a1)) 5)) (Int.tmod (wrap64 (rd l0 a1)) 5) (0) true _ (by rw [specOpOk_tells 1 (by omega)]; exact congrArg some hok)).mono ?_); rintro e w10 ⟨rfl, b11⟩; have FX9 := Aside0.mk (FX6.out.call b11); clear b11; clear FX6; clear hcg6_0 hfg6_0 hcg6_1 hfg6_1 hcg6_2 hfg6_2 hcg4_0 hfg4_0 hcg4_1 hfg4_1 hcg4_2 hfg4_2 hx; have hcg6_0 := FX9.out.cell 0 0 rfl rfl; have hfg6_0 := FX9.out.free 0 0 rfl; have hcg6_1 := FX9.out.cell 0 1 rfl rfl; have hfg6_1 := FX9.out.free 0 1 rfl; have hcg6_2 := FX9.out.cell 0 2 rfl rfl; have hfg6_2 := FX9.out.free 0 2 rfl; have hcg4_0 := FX9.out.cell 1 0 rfl rfl; have hfg4_0 := FX9.out.free 1 0 rfl; have hcg4_1 := FX9.out.cell 1 1 rfl rfl; have hfg4_1 := FX9.out.free 1 1 rfl; have hcg4_2 := FX9.out.cell 1 2 rfl rfl; have hfg4_2 := FX9.out.free 1 2 rfl; have hx := FX9.out.old HX.out) | ((with_reducible refine gate_store (t := 24) (p := 4) rfl ?_); refine store_event (t := 24) (p := 4) (v := ?vo_w13) (w1 := (((w10.setCell ⟨g4, 0, none⟩ (.int .i64 (wrap64 (Int.tdiv (wrap64 (rd l0 a1)) 5)))).setCell ⟨g4, 1, none⟩ (.int .i64 (Int.tmod (wrap64 (rd l0 a1)) 5))).setCell ⟨g4, 2, none⟩ (.int .i64 0))) ?hg ?ho ?hn ?hr ?_; (case ho => rfl); (case hg => rfl); (case hn => rfl); (case hr => first | (go_simp; done) | (go_simp; rfl)); intro w13 e14; have FX12 : Aside0 (YtimlccgpeoaigaaX.Fx w w13 [YtimlccgpeoaigaaX.blk g6 24 #[.int .i64 (wrap64 (Int.tdiv (wrap64 (rd l0 a1)) 5)), .int .i64 (Int.tmod (wrap64 (rd l0 a1)) 5), .int .i64 0], YtimlccgpeoaigaaX.blk g4 24 #[.int .i64 (wrap64 (Int.tdiv (wrap64 (rd l0 a1)) 5)), .int .i64 (Int.tmod (wrap64 (rd l0 a1)) 5), .int .i64 0]]) := ⟨by rw [e14]; exact (((FX9.out.store 1 rfl 0 (.int .i64 (wrap64 (Int.tdiv (wrap64 (rd l0 a1)) 5))) #[.int .i64 (wrap64 (Int.tdiv (wrap64 (rd l0 a1)) 5)), .int .i64 0, .int .i64 0] rfl).store 1 rfl 1 (.int .i64 (Int.tmod (wrap64 (rd l0 a1)) 5)) #[.int .i64 (wrap64 (Int.tdiv (wrap64 (rd l0 a1)) 5)), .int .i64 (Int.tmod (wrap64 (rd l0 a1)) 5), .int .i64 0] rfl).store 1 rfl 2 (.int .i64 0) #[.int .i64 (wrap64 (Int.tdiv (wrap64 (rd l0 a1)) 5)), .int .i64 (Int.tmod (wrap64 (rd l0 a1)) 5), .int .i64 0] rfl)⟩; clear e14; clear FX9; clear hcg6_0 hfg6_0 hcg6_1 hfg6_1 hcg6_2 hfg6_2 hcg4_0 hfg4_0 hcg4_1 hfg4_1 hcg4_2 hfg4_2 hx; have hcg6_0 := FX12.out.cell 0 0 rfl rfl; have hfg6_0 := FX12.out.free 0 0 rfl; have hcg6_1 := FX12.out.cell 0 1 rfl rfl; have hfg6_1 := FX12.out.free 0 1 rfl; have hcg6_2 := FX12.out.cell 0 2 rfl rfl; have hfg6_2 := FX12.out.free 0 2 rfl; have hcg4_0 := FX12.out.cell 1 0 rfl rfl; have hfg4_0 := FX12.out.free 1 0 rfl; have hcg4_1 := FX12.out.cell 1 1 rfl rfl; have hfg4_1 := FX12.out.free 1 1 rfl; have hcg4_2 := FX12.out.cell 1 2 rfl rfl; have hfg4_2 := FX12.out.free 1 2 rfl; have hx := FX12.out.old HX.out))
  exact bodyPost_ret (results_ct rfl _ _ g4 24 #[.int .i64 (wrap64 (Int.tdiv (wrap64 (rd l0 a1)) 5)), .int .i64 (Int.tmod (wrap64 (rd l0 a1)) 5), .int .i64 0] (0, 0) _ rfl (FX12.out.blkOf 1 rfl) Try.underlying24 rfl (by kernel_rfl)) rfl ⟨rfl, FX12.out.below⟩
set_option maxHeartbeats 8000000 in
set_option maxRecDepth 100000 in
theorem spec_UnpackOp.u_two_false (A0 : Option Addr) (c0 : Nat) (l0 : List Int) (a1 : Int) (w : World) (hr0 : Kd.C (Kd.int .u8) w A0 l0.length l0) (hc0 : l0.length ≤ c0) (h0 : 0 ≤ a1) (h1 : a1 < (l0.length : Int)) (hkd : decide (1 ≤ wrap64 (Int.tdiv (wrap64 (rd l0 a1)) 5) ∧ wrap64 (Int.tdiv (wrap64 (rd l0 a1)) 5) ≤ 3) = true) (h2 : a1 + 1 < (l0.length : Int)) (hok : opB (wrap64 (Int.tdiv (wrap64 (rd l0 a1)) 5)) (Int.tmod (wrap64 (rd l0 a1)) 5) (wrap64 (rd l0 (a1 + 1))) = false) :
    Calls Try.prog 10 #[.slice A0 l0.length c0, .int .i64 a1] w fun e w' => e = .returned (.tuple #[.agg #[.int .i64 0, .int .i64 0, .int .i64 0], .int .i64 (-1)]) ∧ Below w.heap.size w w' := by
  have hu24 := Try.underlying24
  have hl := Kd.C_max hr0
  have FX := Aside0.mk (YtimlccgpeoaigaaX.Fx.start w)
  obtain ⟨ad, e0, hx⟩ := Kd.at_int hr0 a1 h0 h1
  obtain ⟨ad', e1, hy⟩ := Kd.at_int hr0 (a1 + 1) (by omega) h2
  obtain rfl : ad = ad' := by rw [e0] at e1; injection e1
  subst e0
  have HX := Aside0.mk hx
  clear hx
  have HY := Aside0.mk hy
  clear hy
  have q1 : decide (a1 < 0) = false := decide_eq_false (by omega)
  have q2 : decide ((l0.length : Int) ≤ a1) = false := decide_eq_false (by omega)
  have q3 : decide ((l0.length : Int) ≤ a1 + 1) = false := decide_eq_false (by omega)
  go_enter Try.func10, Try.ntmps10
  go_wp2_with ((with_reducible refine gate_dst (N := 4) rfl ?_); refine box_event ?hg (N := 4) ?hd (cs := #[.int .i64 0, .int .i64 0, .int .i64 0]) (t := 24) ?hr ?_; (case hd => rfl); (case hg => rfl); (case hr => first | (go_simp; done) | (go_simp; rfl)); intro g4 e3 w2 k4 b5; have FX1 := Aside0.mk (FX.out.alloc e3 k4 b5); clear e3 k4 b5; clear FX; have hcg4_0 := FX1.out.cell 0 0 rfl rfl; have hfg4_0 := FX1.out.free 0 0 rfl; have hcg4_1 := FX1.out.cell 0 1 rfl rfl; have hfg4_1 := FX1.out.free 0 1 rfl; have hcg4_2 := FX1.out.cell 0 2 rfl rfl; have hfg4_2 := FX1.out.free 0 2 rfl; have hx := FX1.out.old HX.out; have hy := FX1.out.old HY.out; have hx2 := fun o => pw_cell_below (below_alloc (Below.refl w2.heap.size w2) o) hx)
  go_region
  clear hx2
  clear hcg4_0 hfg4_0 hcg4_1 hfg4_1 hcg4_2 hfg4_2 hx hy
  refine YtimlccgpeoaigaaV.gen_then (p := fun W' => ∃ g6, YtimlccgpeoaigaaX.Fx w W' [YtimlccgpeoaigaaX.blk g6 24 #[.int .i64 (wrap64 (Int.tdiv (wrap64 (rd l0 a1)) 5)), .int .i64 (Int.tmod (wrap64 (rd l0 a1)) 5), .int .i64 0], YtimlccgpeoaigaaX.blk g4 24 #[.int .i64 0, .int .i64 0, .int .i64 0]] ∧ g6 = w2.heap.size) ⟨_, (FX1.out.alloc rfl (blk_new _ _) (below_alloc (Below.refl _ _) _)).drew, rfl⟩ ?_
  rintro w6 ⟨g6, fx6, e6⟩
  rw [← e6]
  have FXR := Aside0.mk fx6
  clear fx6 e6 FX1
  have hcg6_0 := FXR.out.cell 0 0 rfl rfl
  have hfg6_0 := FXR.out.free 0 0 rfl
  have hcg6_1 := FXR.out.cell 0 1 rfl rfl
  have hfg6_1 := FXR.out.free 0 1 rfl
  have hcg6_2 := FXR.out.cell 0 2 rfl rfl
  have hfg6_2 := FXR.out.free 0 2 rfl
  have hcg4_0 := FXR.out.cell 1 0 rfl rfl
  have hfg4_0 := FXR.out.free 1 0 rfl
  have hcg4_1 := FXR.out.cell 1 1 rfl rfl
  have hfg4_1 := FXR.out.free 1 1 rfl
  have hcg4_2 := FXR.out.cell 1 2 rfl rfl
  have hfg4_2 := FXR.out.free 1 2 rfl
  have hx := FXR.out.old HX.out
  have hy := FXR.out.old HY.out
  go_wp2_with (first | (go_at_call 36; (with_reducible refine (spec_l17HasX.calls _ true _ (by rw [specHasX_tells]; exact congrArg some hkd)).mono ?_); rintro e w7 ⟨rfl, b8⟩; have FX6 := Aside0.mk (FXR.out.call b8.below); clear b8; clear FXR; clear hcg6_0 hfg6_0 hcg6_1 hfg6_1 hcg6_2 hfg6_2 hcg4_0 hfg4_0 hcg4_1 hfg4_1 hcg4_2 hfg4_2 hx hy; have hcg6_0 := FX6.out.cell 0 0 rfl rfl; have hfg6_0 := FX6.out.free 0 0 rfl; have hcg6_1 := FX6.out.cell 0 1 rfl rfl; have hfg6_1 := FX6.out.free 0 1 rfl; have hcg6_2 := FX6.out.cell 0 2 rfl rfl; have hfg6_2 := FX6.out.free 0 2 rfl; have hcg4_0 := FX6.out.cell 1 0 rfl rfl; have hfg4_0 := FX6.out.free 1 0 rfl; have hcg4_1 := FX6.out.cell 1 1 rfl rfl; have hfg4_1 := FX6.out.free 1 1 rfl; have hcg4_2 := FX6.out.cell 1 2 rfl rfl; have hfg4_2 := FX6.out.free 1 2 rfl; have hx := FX6.out.old HX.out; have hy := FX6.out.old HY.out) | ((with_reducible refine gate_store (t := 3) (p := 45) rfl ?_); refine store_event (t := 3) (p := 45) (v := ?vo_w10) (w1 := (w7.setCell ⟨g6, 2, none⟩ (.int .i64 (wrap64 (rd l0 (a1 + 1)))))) ?hg ?ho ?hn ?hr ?_; (case ho => rfl); (case hg => rfl); (case hn => rfl); (case hr => first | (go_simp; done) | (go_simp; rfl)); intro w10 e11; have FX9 : Aside0 (YtimlccgpeoaigaaX.Fx w w10 [YtimlccgpeoaigaaX.blk g6 24 #[.int .i64 (wrap64 (Int.tdiv (wrap64 (rd l0 a1)) 5)), .int .i64 (Int.tmod (wrap64 (rd l0 a1)) 5), .int .i64 (wrap64 (rd l0 (a1 + 1)))], YtimlccgpeoaigaaX.blk g4 24 #[.int .i64 0, .int .i64 0, .int .i64 0]]) := ⟨by rw [e11]; exact (FX6.out.store 0 rfl 2 (.int .i64 (wrap64 (rd l0 (a1 + 1)))) #[.int .i64 (wrap64 (Int.tdiv (wrap64 (rd l0 a1)) 5)), .int .i64 (Int.tmod (wrap64 (rd l0 a1)) 5), .int .i64 (wrap64 (rd l0 (a1 + 1)))] rfl)⟩; clear e11; clear FX6; clear hcg6_0 hfg6_0 hcg6_1 hfg6_1 hcg6_2 hfg6_2 hcg4_0 hfg4_0 hcg4_1 hfg4_1 hcg4_2 hfg4_2 hx hy; have hcg6_0 := FX9.out.cell 0 0 rfl rfl; have hfg6_0 := FX9.out.free 0 0 rfl; have hcg6_1 := FX9.out.cell 0 1 rfl rfl; have hfg6_1 := FX9.out.free 0 1 rfl; have hcg6_2 := FX9.out.cell 0 2 rfl rfl; have hfg6_2 := FX9.out.free 0 2 rfl; have hcg4_0 := FX9.out.cell 1 0 rfl rfl; have hfg4_0 := FX9.out.free 1 0 rfl; have hcg4_1 := FX9.out.cell 1 1 rfl rfl; have hfg4_1 := FX9.out.free 1 1 rfl; have hcg4_2 := FX9.out.cell 1 2 rfl rfl; have hfg4_2 := FX9.out.free 1 2 rfl; have hx := FX9.out.old HX.out; have hy := FX9.out.old HY.out) | (go_at_call 37; (with_reducible refine (spec_OpOk.calls 1 (wrap64 (Int.tdiv (wrap64 (rd l0 a1)) 5)) (Int.tmod (wrap64 (rd l0 a1)) 5) (wrap64 (rd l0 (a1 + 1))) false _ (by rw [specOpOk_tells 1 (by omega)]; exact congrArg some hok)).mono ?_); rintro e w13 ⟨rfl, b14⟩; have FX12 := Aside0.mk (FX9.out.call b14); clear b14; clear FX9; clear hcg6_0 hfg6_0 hcg6_1 hfg6_1 hcg6_2 hfg6_2 hcg4_0 hfg4_0 hcg4_1 hfg4_1 hcg4_2 hfg4_2 hx hy; have hcg6_0 := FX12.out.cell 0 0 rfl rfl; have hfg6_0 := FX12.out.free 0 0 rfl; have hcg6_1 := FX12.out.cell 0 1 rfl rfl; have hfg6_1 := FX12.out.free 0 1 rfl; have hcg6_2 := FX12.out.cell 0 2 rfl rfl; have hfg6_2 := FX12.out.free 0 2 rfl; have hcg4_0 := FX12.out.cell 1 0 rfl rfl; have hfg4_0 := FX12.out.free 1 0 rfl; have hcg4_1 := FX12.out.cell 1 1 rfl rfl; have hfg4_1 := FX12.out.free 1 1 rfl; have hcg4_2 := FX12.out.cell 1 2 rfl rfl; have hfg4_2 := FX12.out.free 1 2 rfl; have hx := FX12.out.old HX.out; have hy := FX12.out.old HY.out) | ((with_reducible refine gate_store (t := 24) (p := 4) rfl ?_); refine store_event (t := 24) (p := 4) (v := ?vo_w16) (w1 := (((w13.setCell ⟨g4, 0, none⟩ (.int .i64 0)).setCell ⟨g4, 1, none⟩ (.int .i64 0)).setCell ⟨g4, 2, none⟩ (.int .i64 0))) ?hg ?ho ?hn ?hr ?_; (case ho => rfl); (case hg => rfl); (case hn => rfl); (case hr => first | (go_simp; done) | (go_simp; rfl)); intro w16 e17; have FX15 : Aside0 (YtimlccgpeoaigaaX.Fx w w16 [YtimlccgpeoaigaaX.blk g6 24 #[.int .i64 (wrap64 (Int.tdiv (wrap64 (rd l0 a1)) 5)), .int .i64 (Int.tmod (wrap64 (rd l0 a1)) 5), .int .i64 (wrap64 (rd l0 (a1 + 1)))], YtimlccgpeoaigaaX.blk g4 24 #[.int .i64 0, .int .i64 0, .int .i64 0]]) := ⟨by rw [e17]; exact (((FX12.out.store 1 rfl 0 (.int .i64 0) #[.int .i64 0, .int .i64 0, .int .i64 0] rfl).store 1 rfl 1 (.int .i64 0) #[.int .i64 0, .int .i64 0, .int .i64 0] rfl).store 1 rfl 2 (.int .i64 0) #[.int .i64 0, .int .i64 0, .int .i64 0] rfl)⟩; clear e17; clear FX12; clear hcg6_0 hfg6_0 hcg6_1 hfg6_1 hcg6_2 hfg6_2 hcg4_0 hfg4_0 hcg4_1 hfg4_1 hcg4_2 hfg4_2 hx hy; have hcg6_0 := FX15.out.cell 0 0 rfl rfl; have hfg6_0 := FX15.out.free 0 0 rfl; have hcg6_1 := FX15.out.cell 0 1 rfl rfl; have hfg6_1 := FX15.out.free 0 1 rfl; have hcg6_2 := FX15.out.cell 0 2 rfl rfl; have hfg6_2 := FX15.out.free 0 2 rfl; have hcg4_0 := FX15.out.cell 1 0 rfl rfl; have hfg4_0 := FX15.out.free 1 0 rfl; have hcg4_1 := FX15.out.cell 1 1 rfl rfl; have hfg4_1 := FX15.out.free 1 1 rfl; have hcg4_2 := FX15.out.cell 1 2 rfl rfl; have hfg4_2 := FX15.out.free 1 2 rfl; have hx := FX15.out.old HX.out; have hy := FX15.out.old HY.out))
  exact bodyPost_ret (results_ct rfl _ _ g4 24 #[.int .i64 0, .int .i64 0, .int .i64 0] (0, 0) _ rfl (FX15.out.blkOf 1 rfl) Try.underlying24 rfl (by kernel_rfl)) rfl ⟨rfl, FX15.out.below⟩
set_option maxHeartbeats 8000000 in
set_option maxRecDepth 100000 in
theorem spec_UnpackOp.u_one_false (A0 : Option Addr) (c0 : Nat) (l0 : List Int) (a1 : Int) (w : World) (hr0 : Kd.C (Kd.int .u8) w A0 l0.length l0) (hc0 : l0.length ≤ c0) (h0 : 0 ≤ a1) (h1 : a1 < (l0.length : Int)) (hkd : decide (1 ≤ wrap64 (Int.tdiv (wrap64 (rd l0 a1)) 5) ∧ wrap64 (Int.tdiv (wrap64 (rd l0 a1)) 5) ≤ 3) = false) (hok : opB (wrap64 (Int.tdiv (wrap64 (rd l0 a1)) 5)) (Int.tmod (wrap64 (rd l0 a1)) 5) 0 = false) :
    Calls Try.prog 10 #[.slice A0 l0.length c0, .int .i64 a1] w fun e w' => e = .returned (.tuple #[.agg #[.int .i64 0, .int .i64 0, .int .i64 0], .int .i64 (-1)]) ∧ Below w.heap.size w w' := by
  have hu24 := Try.underlying24
  have hl := Kd.C_max hr0
  have FX := Aside0.mk (YtimlccgpeoaigaaX.Fx.start w)
  obtain ⟨ad, e0, hx⟩ := Kd.at_int hr0 a1 h0 h1
  subst e0
  have HX := Aside0.mk hx
  clear hx
  have q1 : decide (a1 < 0) = false := decide_eq_false (by omega)
  have q2 : decide ((l0.length : Int) ≤ a1) = false := decide_eq_false (by omega)
  go_enter Try.func10, Try.ntmps10
  go_wp2_with ((with_reducible refine gate_dst (N := 4) rfl ?_); refine box_event ?hg (N := 4) ?hd (cs := #[.int .i64 0, .int .i64 0, .int .i64 0]) (t := 24) ?hr ?_; (case hd => rfl); (case hg => rfl); (case hr => first | (go_simp; done) | (go_simp; rfl)); intro g4 e3 w2 k4 b5; have FX1 := Aside0.mk (FX.out.alloc e3 k4 b5); clear e3 k4 b5; clear FX; have hcg4_0 := FX1.out.cell 0 0 rfl rfl; have hfg4_0 := FX1.out.free 0 0 rfl; have hcg4_1 := FX1.out.cell 0 1 rfl rfl; have hfg4_1 := FX1.out.free 0 1 rfl; have hcg4_2 := FX1.out.cell 0 2 rfl rfl; have hfg4_2 := FX1.out.free 0 2 rfl; have hx := FX1.out.old HX.out; have hx2 := fun o => pw_cell_below (below_alloc (Below.refl w2.heap.size w2) o) hx)
  go_region
  clear hx2
  clear hcg4_0 hfg4_0 hcg4_1 hfg4_1 hcg4_2 hfg4_2 hx
  refine YtimlccgpeoaigaaV.gen_then (p := fun W' => ∃ g6, YtimlccgpeoaigaaX.Fx w W' [YtimlccgpeoaigaaX.blk g6 24 #[.int .i64 (wrap64 (Int.tdiv (wrap64 (rd l0 a1)) 5)), .int .i64 (Int.tmod (wrap64 (rd l0 a1)) 5), .int .i64 0], YtimlccgpeoaigaaX.blk g4 24 #[.int .i64 0, .int .i64 0, .int .i64 0]] ∧ g6 = w2.heap.size) ⟨_, (FX1.out.alloc rfl (blk_new _ _) (below_alloc (Below.refl _ _) _)).drew, rfl⟩ ?_
  rintro w6 ⟨g6, fx6, e6⟩
  rw [← e6]
  have FXR := Aside0.mk fx6
  clear fx6 e6 FX1
  have hcg6_0 := FXR.out.cell 0 0 rfl rfl
  have hfg6_0 := FXR.out.free 0 0 rfl
  have hcg6_1 := FXR.out.cell 0 1 rfl rfl
  have hfg6_1 := FXR.out.free 0 1 rfl
  have hcg6_2 := FXR.out.cell 0 2 rfl rfl
  have hfg6_2 := FXR.out.free 0 2 rfl
  have hcg4_0 := FXR.out.cell 1 0 rfl rfl
  have hfg4_0 := FXR.out.free 1 0 rfl
  have hcg4_1 := FXR.out.cell 1 1 rfl rfl
  have hfg4_1 := FXR.out.free 1 1 rfl
  have hcg4_2 := FXR.out.cell 1 2 rfl rfl
  have hfg4_2 := FXR.out.free 1 2 rfl
  have hx := FXR.out.old HX.out
  go_wp2_with (first | (go_at_call 36; (with_reducible refine (spec_l17HasX.calls _ false _ (by rw [specHasX_tells]; exact congrArg some hkd)).mono ?_); rintro e w7 ⟨rfl, b8⟩; have FX6 := Aside0.mk (FXR.out.call b8.below); clear b8; clear FXR; clear hcg6_0 hfg6_0 hcg6_1 hfg6_1 hcg6_2 hfg6_2 hcg4_0 hfg4_0 hcg4_1 hfg4_1 hcg4_2 hfg4_2 hx; have hcg6_0 := FX6.out.cell 0 0 rfl rfl; have hfg6_0 := FX6.out.free 0 0 rfl; have hcg6_1 := FX6.out.cell 0 1 rfl rfl; have hfg6_1 := FX6.out.free 0 1 rfl; have hcg6_2 := FX6.out.cell 0 2 rfl rfl; have hfg6_2 := FX6.out.free 0 2 rfl; have hcg4_0 := FX6.out.cell 1 0 rfl rfl; have hfg4_0 := FX6.out.free 1 0 rfl; have hcg4_1 := FX6.out.cell 1 1 rfl rfl; have hfg4_1 := FX6.out.free 1 1 rfl; have hcg4_2 := FX6.out.cell 1 2 rfl rfl; have hfg4_2 := FX6.out.free 1 2 rfl; have hx := FX6.out.old HX.out) | (go_at_call 37; (with_reducible refine (spec_OpOk.calls 1 (wrap64 (Int.tdiv (wrap64 (rd l0 a1)) 5)) (Int.tmod (wrap64 (rd l0 a1)) 5) (0) false _ (by rw [specOpOk_tells 1 (by omega)]; exact congrArg some hok)).mono ?_); rintro e w10 ⟨rfl, b11⟩; have FX9 := Aside0.mk (FX6.out.call b11); clear b11; clear FX6; clear hcg6_0 hfg6_0 hcg6_1 hfg6_1 hcg6_2 hfg6_2 hcg4_0 hfg4_0 hcg4_1 hfg4_1 hcg4_2 hfg4_2 hx; have hcg6_0 := FX9.out.cell 0 0 rfl rfl; have hfg6_0 := FX9.out.free 0 0 rfl; have hcg6_1 := FX9.out.cell 0 1 rfl rfl; have hfg6_1 := FX9.out.free 0 1 rfl; have hcg6_2 := FX9.out.cell 0 2 rfl rfl; have hfg6_2 := FX9.out.free 0 2 rfl; have hcg4_0 := FX9.out.cell 1 0 rfl rfl; have hfg4_0 := FX9.out.free 1 0 rfl; have hcg4_1 := FX9.out.cell 1 1 rfl rfl; have hfg4_1 := FX9.out.free 1 1 rfl; have hcg4_2 := FX9.out.cell 1 2 rfl rfl; have hfg4_2 := FX9.out.free 1 2 rfl; have hx := FX9.out.old HX.out) | ((with_reducible refine gate_store (t := 24) (p := 4) rfl ?_); refine store_event (t := 24) (p := 4) (v := ?vo_w13) (w1 := (((w10.setCell ⟨g4, 0, none⟩ (.int .i64 0)).setCell ⟨g4, 1, none⟩ (.int .i64 0)).setCell ⟨g4, 2, none⟩ (.int .i64 0))) ?hg ?ho ?hn ?hr ?_; (case ho => rfl); (case hg => rfl); (case hn => rfl); (case hr => first | (go_simp; done) | (go_simp; rfl)); intro w13 e14; have FX12 : Aside0 (YtimlccgpeoaigaaX.Fx w w13 [YtimlccgpeoaigaaX.blk g6 24 #[.int .i64 (wrap64 (Int.tdiv (wrap64 (rd l0 a1)) 5)), .int .i64 (Int.tmod (wrap64 (rd l0 a1)) 5), .int .i64 0], YtimlccgpeoaigaaX.blk g4 24 #[.int .i64 0, .int .i64 0, .int .i64 0]]) := ⟨by rw [e14]; exact (((FX9.out.store 1 rfl 0 (.int .i64 0) #[.int .i64 0, .int .i64 0, .int .i64 0] rfl).store 1 rfl 1 (.int .i64 0) #[.int .i64 0, .int .i64 0, .int .i64 0] rfl).store 1 rfl 2 (.int .i64 0) #[.int .i64 0, .int .i64 0, .int .i64 0] rfl)⟩; clear e14; clear FX9; clear hcg6_0 hfg6_0 hcg6_1 hfg6_1 hcg6_2 hfg6_2 hcg4_0 hfg4_0 hcg4_1 hfg4_1 hcg4_2 hfg4_2 hx; have hcg6_0 := FX12.out.cell 0 0 rfl rfl; have hfg6_0 := FX12.out.free 0 0 rfl; have hcg6_1 := FX12.out.cell 0 1 rfl rfl; have hfg6_1 := FX12.out.free 0 1 rfl; have hcg6_2 := FX12.out.cell 0 2 rfl rfl; have hfg6_2 := FX12.out.free 0 2 rfl; have hcg4_0 := FX12.out.cell 1 0 rfl rfl; have hfg4_0 := FX12.out.free 1 0 rfl; have hcg4_1 := FX12.out.cell 1 1 rfl rfl; have hfg4_1 := FX12.out.free 1 1 rfl; have hcg4_2 := FX12.out.cell 1 2 rfl rfl; have hfg4_2 := FX12.out.free 1 2 rfl; have hx := FX12.out.old HX.out))
  exact bodyPost_ret (results_ct rfl _ _ g4 24 #[.int .i64 0, .int .i64 0, .int .i64 0] (0, 0) _ rfl (FX12.out.blkOf 1 rfl) Try.underlying24 rfl (by kernel_rfl)) rfl ⟨rfl, FX12.out.below⟩
def spec_UnpackOp.f (l0 : List Int) (a1 : Int) : Option (Int × Int × Int × Int) := some (unpack l0 a1)
theorem spec_UnpackOp.calls (A0 : Option Addr) (c0 : Nat) (l0 : List Int) (a1 : Int) (r1 : Int) (r2 : Int) (r3 : Int) (r4 : Int) (w : World) (hr0 : Kd.C (Kd.int .u8) w A0 l0.length l0) (hc0 : l0.length ≤ c0) (h : spec_UnpackOp.f l0 a1 = some (r1, r2, r3, r4)) :
    Calls Try.prog 10 #[.slice A0 l0.length c0, .int .i64 a1] w fun e w' => e = .returned (.tuple #[.agg #[.int .i64 r1, .int .i64 r2, .int .i64 r3], .int .i64 r4]) ∧ Below w.heap.size w w' := by
  have h' := Option.some.inj h
  clear h
  unfold unpack at h'
  by_cases h0 : a1 < 0
  · rw [if_pos h0] at h'
    simp only [Prod.mk.injEq] at h'
    obtain ⟨rfl, rfl, rfl, rfl⟩ := h'
    exact spec_UnpackOp.u_low A0 c0 l0 a1 w hr0 hc0 h0
  rw [if_neg h0] at h'
  by_cases h1 : (l0.length : Int) ≤ a1
  · rw [if_pos h1] at h'
    simp only [Prod.mk.injEq] at h'
    obtain ⟨rfl, rfl, rfl, rfl⟩ := h'
    exact spec_UnpackOp.u_high A0 c0 l0 a1 w hr0 hc0 (by omega) h1
  rw [if_neg h1] at h'
  by_cases h2 : 1 ≤ wrap64 (Int.tdiv (wrap64 (rd l0 a1)) 5) ∧ wrap64 (Int.tdiv (wrap64 (rd l0 a1)) 5) ≤ 3
  · rw [if_pos h2] at h'
    by_cases h3 : a1 + 1 < (l0.length : Int)
    · rw [if_pos h3] at h'
      by_cases h4 : opB (wrap64 (Int.tdiv (wrap64 (rd l0 a1)) 5)) (Int.tmod (wrap64 (rd l0 a1)) 5) (wrap64 (rd l0 (a1 + 1))) = true
      · rw [if_pos h4] at h'
        simp only [Prod.mk.injEq] at h'
        obtain ⟨rfl, rfl, rfl, rfl⟩ := h'
        exact spec_UnpackOp.u_two_true A0 c0 l0 a1 w hr0 hc0 (by omega) (by omega) (decide_eq_true h2) h3 h4
      · rw [if_neg h4] at h'
        simp only [Prod.mk.injEq] at h'
        obtain ⟨rfl, rfl, rfl, rfl⟩ := h'
        exact spec_UnpackOp.u_two_false A0 c0 l0 a1 w hr0 hc0 (by omega) (by omega) (decide_eq_true h2) h3 (Bool.eq_false_iff.mpr h4)
    · rw [if_neg h3] at h'
      simp only [Prod.mk.injEq] at h'
      obtain ⟨rfl, rfl, rfl, rfl⟩ := h'
      exact spec_UnpackOp.u_short A0 c0 l0 a1 w hr0 hc0 (by omega) (by omega) (decide_eq_true h2) h3
  · rw [if_neg h2] at h'
    by_cases h4 : opB (wrap64 (Int.tdiv (wrap64 (rd l0 a1)) 5)) (Int.tmod (wrap64 (rd l0 a1)) 5) 0 = true
    · rw [if_pos h4] at h'
      simp only [Prod.mk.injEq] at h'
      obtain ⟨rfl, rfl, rfl, rfl⟩ := h'
      exact spec_UnpackOp.u_one_true A0 c0 l0 a1 w hr0 hc0 (by omega) (by omega) (decide_eq_false h2) h4
    · rw [if_neg h4] at h'
      simp only [Prod.mk.injEq] at h'
      obtain ⟨rfl, rfl, rfl, rfl⟩ := h'
      exact spec_UnpackOp.u_one_false A0 c0 l0 a1 w hr0 hc0 (by omega) (by omega) (decide_eq_false h2) (Bool.eq_false_iff.mpr h4)


end Go.Proofs.Ytimlccgpeoaigaa.PFnExactUnpackOps
