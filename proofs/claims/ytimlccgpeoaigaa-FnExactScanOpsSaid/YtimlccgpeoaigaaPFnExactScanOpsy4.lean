-- Written by a program of this session (wip/tools/mkprint2.py over the kit's print); texts of functions that the print does not take are the session's own (ext.py).
import Derived.Test.YtimlccgpeoaigaaPFnExactScanOpsy0
import Derived.Test.YtimlccgpeoaigaaPFnExactScanOpsy2
import Derived.Test.YtimlccgpeoaigaaPFnExactScanOpsy3
namespace Go.Proofs.Ytimlccgpeoaigaa.PFnExactScanOps
open Go.RowKit Go.Proofs.YtimlccgpeoaigaaW.PrintWords Go.Proofs.YtimlccgpeoaigaaW.PrintLast Go.Proofs.YtimlccgpeoaigaaW.PrintMore
attribute [local go_sem] max2_int min2_int max_two min_two max_three min_three max_four min_four   -- for this text's walks alone
set_option linter.unusedVariables false
set_option linter.unusedSimpArgs false

/-! ### impl_OpOk: function 40 -/
def impl_OpOk.j0 : Nat → Bool → Int → Int → Int → Option (Bool)
  | 0, _, _, _, _ => none
  | k + 1, x22, x128000, x128001, x128002 => if x22 = true then (some false) else ((impl_hasX.f x128000).bind fun t130 => (if t130 = true then ((impl_within.f x128002 1 60).bind fun t131 => (some t131)) else (some (x128002 == 0))))
def impl_OpOk.f (k : Nat) (a0_0 : Int) (a0_1 : Int) (a0_2 : Int) : Option (Bool) := (impl_within.f a0_0 0 6).bind fun t128 => (if t128 = true then ((impl_isWorker.f a0_1).bind fun t129 => (if t129 = true then (if a0_0 = 0 then (impl_OpOk.j0 k (a0_1 != 0) a0_0 a0_1 a0_2) else (impl_OpOk.j0 k false a0_0 a0_1 a0_2)) else (impl_OpOk.j0 k true a0_0 a0_1 a0_2))) else (impl_OpOk.j0 k true a0_0 a0_1 a0_2))
theorem impl_OpOk.mono_l : ∀ k, (∀ y0 y1 y2 y3, LeO (impl_OpOk.j0 k y0 y1 y2 y3) (impl_OpOk.j0 (k + 1) y0 y1 y2 y3))
  | 0 => fun _ _ _ _ r h => by simp [impl_OpOk.j0] at h
  | k + 1 => by
    have ih0 := impl_OpOk.mono_l k
    · intro y0 y1 y2 y3
      unfold impl_OpOk.j0
      repeat' first
      | (with_reducible exact ih0 _ _ _ _)
      | (with_reducible exact LeO.refl _)
      | (with_reducible exact LeO.none _)
      | (with_reducible refine LeO.ite ?_ ?_)
      | (with_reducible refine LeO.bind ?_ (fun _ => ?_))
      | exact ih0 _ _ _ _
      | exact LeO.none _
      | refine LeO.ite ?_ ?_
      | refine LeO.bind ?_ (fun _ => ?_)
theorem impl_OpOk.mono : ∀ a0 a1 a2 k, LeO (impl_OpOk.f k a0 a1 a2) (impl_OpOk.f (k + 1) a0 a1 a2) := by
  intro a0 a1 a2 k
  have ih0 := impl_OpOk.mono_l k
  unfold impl_OpOk.f
  repeat' first
      | (with_reducible exact ih0 _ _ _ _)
      | (with_reducible exact LeO.refl _)
      | (with_reducible exact LeO.none _)
      | (with_reducible refine LeO.ite ?_ ?_)
      | (with_reducible refine LeO.bind ?_ (fun _ => ?_))
      | exact ih0 _ _ _ _
      | exact LeO.none _
      | refine LeO.ite ?_ ?_
      | refine LeO.bind ?_ (fun _ => ?_)
set_option maxHeartbeats 8000000 in
set_option maxRecDepth 100000 in
theorem impl_OpOk.calls (k : Nat) (a0_0 : Int) (a0_1 : Int) (a0_2 : Int) (r : Bool) (w : World) (h : impl_OpOk.f k a0_0 a0_1 a0_2 = some r) :
    Calls Try.prog 40 #[.agg #[.int .i64 a0_0, .int .i64 a0_1, .int .i64 a0_2]] w fun e w' => e = .returned (.bool r) ∧ Below w.heap.size w w' := by
  have hu24 := Try.underlying24
  have HB := Aside0.mk (Below.refl w.heap.size w)
  have H : ((impl_within.f a0_0 0 6).bind fun t128 => (if t128 = true then ((impl_isWorker.f a0_1).bind fun t129 => (if t129 = true then (if a0_0 = 0 then (impl_OpOk.j0 k (a0_1 != 0) a0_0 a0_1 a0_2) else (impl_OpOk.j0 k false a0_0 a0_1 a0_2)) else (impl_OpOk.j0 k true a0_0 a0_1 a0_2))) else (impl_OpOk.j0 k true a0_0 a0_1 a0_2))) = some r := h
  clear h
  have HC2 := Aside0.mk H
  clear H
  go_enter Try.func40, Try.ntmps40
  go_upto_region 1 with (first | ((with_reducible refine gate_dst (N := 1) rfl ?_); refine box_event ?hg (N := 1) ?hd (cs := #[.int .i64 a0_0, .int .i64 a0_1, .int .i64 a0_2]) (t := 24) ?hr ?_; (case hd => rfl); (case hg => rfl); (case hr => first | (go_simp; done) | (go_simp; rfl)); intro gb127 hg w3 hbox hb; have n0_ := Aside0.mk (below_step (by repeat (first | (with_reducible first | exact HB.out | apply below_alloc | apply pw_below_drewN | apply below_drew1) | exact HB.out)) hb); have n1_ := Aside0.mk (hbox); have n2_ := Aside0.mk ((by rw [hg]; exact (below_size (by repeat (first | (with_reducible first | exact HB.out | apply below_alloc | apply pw_below_drewN | apply below_drew1) | exact HB.out))) : w.heap.size ≤ gb127)); have n3_ := Aside0.mk ((by rw [hg]; exact (below_size (by repeat (first | (with_reducible first | exact HB.out | apply below_alloc | apply pw_below_drewN | apply below_drew1) | exact HB.out))) : w.heap.size ≤ gb127)); clear HB; have HB := n0_; have BK127 := n1_; have GW127 := n2_; have GE127 := n3_; clear n0_ n1_ n2_ n3_; clear hb hbox hg))
  (try simp only [Act.put, List.setIfInBounds_toArray, List.set_cons_zero, List.set_cons_succ])
  go_cut [22] (fun v22 wc => ∃ (kq : Nat) (x22_1 : Bool), v22 = .bool x22_1 ∧ Aside0 (impl_OpOk.j0 kq x22_1 a0_0 a0_1 a0_2 = some r) ∧ Aside0 (kq ≤ k) ∧ Aside0 (wc.heap[gb127]? = some (.cells #[.int .i64 a0_0, .int .i64 a0_1, .int .i64 a0_2] 24 (0, 0))) ∧ Aside0 (Below w.heap.size w wc))
  case first =>
    have H := HC2.out
    clear HC2
    replace H := Option.bind_eq_some_iff.mp H
    obtain ⟨t128, A40, H⟩ := H
    replace H : (if t128 = true then ((impl_isWorker.f a0_1).bind fun t129 => (if t129 = true then (if a0_0 = 0 then (impl_OpOk.j0 k (a0_1 != 0) a0_0 a0_1 a0_2) else (impl_OpOk.j0 k false a0_0 a0_1 a0_2)) else (impl_OpOk.j0 k true a0_0 a0_1 a0_2))) else (impl_OpOk.j0 k true a0_0 a0_1 a0_2)) = some r := H
    have A4 := Aside0.mk A40
    clear A40
    by_cases c5 : t128 = true
    · subst c5
      have H1 : ((impl_isWorker.f a0_1).bind fun t129 => (if t129 = true then (if a0_0 = 0 then (impl_OpOk.j0 k (a0_1 != 0) a0_0 a0_1 a0_2) else (impl_OpOk.j0 k false a0_0 a0_1 a0_2)) else (impl_OpOk.j0 k true a0_0 a0_1 a0_2))) = some r := by rw [if_pos rfl] at H; exact H
      clear H
      have H := H1
      clear H1
      replace H := Option.bind_eq_some_iff.mp H
      obtain ⟨t129, A60, H⟩ := H
      replace H : (if t129 = true then (if a0_0 = 0 then (impl_OpOk.j0 k (a0_1 != 0) a0_0 a0_1 a0_2) else (impl_OpOk.j0 k false a0_0 a0_1 a0_2)) else (impl_OpOk.j0 k true a0_0 a0_1 a0_2)) = some r := H
      have A6 := Aside0.mk A60
      clear A60
      by_cases c7 : t129 = true
      · subst c7
        have H1 : (if a0_0 = 0 then (impl_OpOk.j0 k (a0_1 != 0) a0_0 a0_1 a0_2) else (impl_OpOk.j0 k false a0_0 a0_1 a0_2)) = some r := by rw [if_pos rfl] at H; exact H
        clear H
        have H := H1
        clear H1
        by_cases c8 : a0_0 = 0
        · rw [if_pos c8] at H
          have c8b0 : (a0_0 == 0) = true := beq_iff_eq.mpr c8
          have c8b1 : (a0_0 != 0) = false := bne_eq_false_iff_eq.mpr c8
          clear c8
          (first | rw [c8b0] | (simp only [i64_w, i32_w]; rw [c8b0]) | skip)
          have H' := Aside0.mk H
          clear H
          have hcz9_0 : w3.cell? ⟨gb127, 0, none⟩ = some (.int .i64 a0_0) := (blk_cell BK127.out 0).trans rfl
          have hcz9_1 : w3.cell? ⟨gb127, 1, none⟩ = some (.int .i64 a0_1) := (blk_cell BK127.out 1).trans rfl
          have hcz9_2 : w3.cell? ⟨gb127, 2, none⟩ = some (.int .i64 a0_2) := (blk_cell BK127.out 2).trans rfl
          have hfz9_0 := blk_frozen BK127.out 0
          have hfz9_1 := blk_frozen BK127.out 1
          have hfz9_2 := blk_frozen BK127.out 2
          go_wp2_with (first | ((with_reducible refine gate_callee (f := 38) rfl ?_); refine goesL_ (some 5) rfl rfl Try.func38 (by kernel_rfl) rfl #[.int .i64 a0_0, .int .i64 0, .int .i64 6] rfl (by (try simp only [List.map_toArray, List.map_cons, List.map_nil]); first | done | rfl | (simp only [List.length_drop, List.length_take]; rfl)) ?_; (with_reducible refine (impl_within.calls a0_0 0 6 true _ A4.out).mono ?_); rintro e w' ⟨rfl, ⟨nd, rfl⟩⟩; refine ⟨_, rfl, ?_⟩) | (go_at_call 58; (with_reducible refine (impl_isWorker.calls a0_1 true _ A6.out).mono ?_); rintro e w' ⟨rfl, ⟨nd, rfl⟩⟩))
          go_meet
          case rel => exact ⟨_, ((a0_1 != 0)), (by first | rfl | (simp; done) | (simp [*]; done)), H', ⟨by first | omega | exact Nat.le_refl _⟩, ⟨by (with_reducible repeat (first | refine blk_drewN ?_ _ | refine blk_drew ?_ | refine blk_alloc ?_ _)); exact BK127.out⟩, ⟨by repeat (first | (with_reducible first | exact HB.out | apply below_alloc | apply pw_below_drewN | apply below_drew1 | refine below_set ?_ GE127.out) | exact HB.out)⟩⟩
        · rw [if_neg c8] at H
          have c8b0 : (a0_0 == 0) = false := beq_eq_false_iff_ne.mpr c8
          have c8b1 : (a0_0 != 0) = true := bne_iff_ne.mpr c8
          (first | rw [c8b0] | (simp only [i64_w, i32_w]; rw [c8b0]) | skip)
          have H' := Aside0.mk H
          clear H
          have hcz10_0 : w3.cell? ⟨gb127, 0, none⟩ = some (.int .i64 a0_0) := (blk_cell BK127.out 0).trans rfl
          have hcz10_1 : w3.cell? ⟨gb127, 1, none⟩ = some (.int .i64 a0_1) := (blk_cell BK127.out 1).trans rfl
          have hcz10_2 : w3.cell? ⟨gb127, 2, none⟩ = some (.int .i64 a0_2) := (blk_cell BK127.out 2).trans rfl
          have hfz10_0 := blk_frozen BK127.out 0
          have hfz10_1 := blk_frozen BK127.out 1
          have hfz10_2 := blk_frozen BK127.out 2
          go_wp2_with (first | ((with_reducible refine gate_callee (f := 38) rfl ?_); refine goesL_ (some 5) rfl rfl Try.func38 (by kernel_rfl) rfl #[.int .i64 a0_0, .int .i64 0, .int .i64 6] rfl (by (try simp only [List.map_toArray, List.map_cons, List.map_nil]); first | done | rfl | (simp only [List.length_drop, List.length_take]; rfl)) ?_; (with_reducible refine (impl_within.calls a0_0 0 6 true _ A4.out).mono ?_); rintro e w' ⟨rfl, ⟨nd, rfl⟩⟩; refine ⟨_, rfl, ?_⟩) | (go_at_call 58; (with_reducible refine (impl_isWorker.calls a0_1 true _ A6.out).mono ?_); rintro e w' ⟨rfl, ⟨nd, rfl⟩⟩))
          go_meet
          case rel => exact ⟨_, (false), (by first | rfl | (simp; done) | (simp [*]; done)), H', ⟨by first | omega | exact Nat.le_refl _⟩, ⟨by (with_reducible repeat (first | refine blk_drewN ?_ _ | refine blk_drew ?_ | refine blk_alloc ?_ _)); exact BK127.out⟩, ⟨by repeat (first | (with_reducible first | exact HB.out | apply below_alloc | apply pw_below_drewN | apply below_drew1 | refine below_set ?_ GE127.out) | exact HB.out)⟩⟩
      · replace c7 := Bool.eq_false_iff.mpr c7
        subst c7
        have H1 : (impl_OpOk.j0 k true a0_0 a0_1 a0_2) = some r := by rw [if_neg (show ¬ (false = true) by decide)] at H; exact H
        clear H
        have H := H1
        clear H1
        have H' := Aside0.mk H
        clear H
        have hcz11_0 : w3.cell? ⟨gb127, 0, none⟩ = some (.int .i64 a0_0) := (blk_cell BK127.out 0).trans rfl
        have hcz11_1 : w3.cell? ⟨gb127, 1, none⟩ = some (.int .i64 a0_1) := (blk_cell BK127.out 1).trans rfl
        have hcz11_2 : w3.cell? ⟨gb127, 2, none⟩ = some (.int .i64 a0_2) := (blk_cell BK127.out 2).trans rfl
        have hfz11_0 := blk_frozen BK127.out 0
        have hfz11_1 := blk_frozen BK127.out 1
        have hfz11_2 := blk_frozen BK127.out 2
        go_wp2_with (first | ((with_reducible refine gate_callee (f := 38) rfl ?_); refine goesL_ (some 5) rfl rfl Try.func38 (by kernel_rfl) rfl #[.int .i64 a0_0, .int .i64 0, .int .i64 6] rfl (by (try simp only [List.map_toArray, List.map_cons, List.map_nil]); first | done | rfl | (simp only [List.length_drop, List.length_take]; rfl)) ?_; (with_reducible refine (impl_within.calls a0_0 0 6 true _ A4.out).mono ?_); rintro e w' ⟨rfl, ⟨nd, rfl⟩⟩; refine ⟨_, rfl, ?_⟩) | (go_at_call 58; (with_reducible refine (impl_isWorker.calls a0_1 false _ A6.out).mono ?_); rintro e w' ⟨rfl, ⟨nd, rfl⟩⟩))
        go_meet
        case rel => exact ⟨_, (true), (by first | rfl | (simp; done) | (simp [*]; done)), H', ⟨by first | omega | exact Nat.le_refl _⟩, ⟨by (with_reducible repeat (first | refine blk_drewN ?_ _ | refine blk_drew ?_ | refine blk_alloc ?_ _)); exact BK127.out⟩, ⟨by repeat (first | (with_reducible first | exact HB.out | apply below_alloc | apply pw_below_drewN | apply below_drew1 | refine below_set ?_ GE127.out) | exact HB.out)⟩⟩
    · replace c5 := Bool.eq_false_iff.mpr c5
      subst c5
      have H1 : (impl_OpOk.j0 k true a0_0 a0_1 a0_2) = some r := by rw [if_neg (show ¬ (false = true) by decide)] at H; exact H
      clear H
      have H := H1
      clear H1
      have H' := Aside0.mk H
      clear H
      have hcz12_0 : w3.cell? ⟨gb127, 0, none⟩ = some (.int .i64 a0_0) := (blk_cell BK127.out 0).trans rfl
      have hcz12_1 : w3.cell? ⟨gb127, 1, none⟩ = some (.int .i64 a0_1) := (blk_cell BK127.out 1).trans rfl
      have hcz12_2 : w3.cell? ⟨gb127, 2, none⟩ = some (.int .i64 a0_2) := (blk_cell BK127.out 2).trans rfl
      have hfz12_0 := blk_frozen BK127.out 0
      have hfz12_1 := blk_frozen BK127.out 1
      have hfz12_2 := blk_frozen BK127.out 2
      go_wp2_with (first | ((with_reducible refine gate_callee (f := 38) rfl ?_); refine goesL_ (some 5) rfl rfl Try.func38 (by kernel_rfl) rfl #[.int .i64 a0_0, .int .i64 0, .int .i64 6] rfl (by (try simp only [List.map_toArray, List.map_cons, List.map_nil]); first | done | rfl | (simp only [List.length_drop, List.length_take]; rfl)) ?_; (with_reducible refine (impl_within.calls a0_0 0 6 false _ A4.out).mono ?_); rintro e w' ⟨rfl, ⟨nd, rfl⟩⟩; refine ⟨_, rfl, ?_⟩))
      go_meet
      case rel => exact ⟨_, (true), (by first | rfl | (simp; done) | (simp [*]; done)), H', ⟨by first | omega | exact Nat.le_refl _⟩, ⟨by (with_reducible repeat (first | refine blk_drewN ?_ _ | refine blk_drew ?_ | refine blk_alloc ?_ _)); exact BK127.out⟩, ⟨by repeat (first | (with_reducible first | exact HB.out | apply below_alloc | apply pw_below_drewN | apply below_drew1 | refine below_set ?_ GE127.out) | exact HB.out)⟩⟩
  case rest =>
    clear HC2
    try clear p2
    try clear c3
    try clear c4
    try clear c5
    try clear c7
    try clear c8
    try clear c8b0
    try clear c8b1
    try clear hcz10_0
    try clear hcz10_1
    try clear hcz10_2
    try clear hcz11_0
    try clear hcz11_1
    try clear hcz11_2
    try clear hcz12_0
    try clear hcz12_1
    try clear hcz12_2
    try clear hcz9_0
    try clear hcz9_1
    try clear hcz9_2
    try clear hfz10_0
    try clear hfz10_1
    try clear hfz10_2
    try clear hfz11_0
    try clear hfz11_1
    try clear hfz11_2
    try clear hfz12_0
    try clear hfz12_1
    try clear hfz12_2
    try clear hfz9_0
    try clear hfz9_1
    try clear hfz9_2
    obtain ⟨kq, x22_1, rfl, HA, HJ1, BK127, HB⟩ := hcut
    cases kq with
    | zero => exact absurd HA.out (by simp [impl_OpOk.j0])
    | succ kj1 =>
      have H := HA.out
      clear HA
      simp only [impl_OpOk.j0] at H
      by_cases c13 : x22_1 = true
      · subst c13
        have H1 : (some false) = some r := by rw [if_pos rfl] at H; exact H
        clear H
        have H := H1
        clear H1
        obtain rfl := Option.some.inj H
        go_wp2
        go_ret
        exact ⟨by first | rfl | (simp [errW_none, errW_some] <;> rfl) | (simp [*, errW_none, errW_some] <;> rfl), by repeat (first | (with_reducible first | exact HB.out | apply below_alloc | apply pw_below_drewN | apply below_drew1 | refine below_set ?_ GE127.out) | exact HB.out)⟩
      · replace c13 := Bool.eq_false_iff.mpr c13
        subst c13
        have H1 : ((impl_hasX.f a0_0).bind fun t130 => (if t130 = true then ((impl_within.f a0_2 1 60).bind fun t131 => (some t131)) else (some (a0_2 == 0)))) = some r := by rw [if_neg (show ¬ (false = true) by decide)] at H; exact H
        clear H
        have H := H1
        clear H1
        replace H := Option.bind_eq_some_iff.mp H
        obtain ⟨t130, A140, H⟩ := H
        replace H : (if t130 = true then ((impl_within.f a0_2 1 60).bind fun t131 => (some t131)) else (some (a0_2 == 0))) = some r := H
        have A14 := Aside0.mk A140
        clear A140
        by_cases c15 : t130 = true
        · subst c15
          have H1 : ((impl_within.f a0_2 1 60).bind fun t131 => (some t131)) = some r := by rw [if_pos rfl] at H; exact H
          clear H
          have H := H1
          clear H1
          replace H := Option.bind_eq_some_iff.mp H
          obtain ⟨t131, A160, H⟩ := H
          replace H : (some t131) = some r := H
          have A16 := Aside0.mk A160
          clear A160
          obtain rfl := Option.some.inj H
          have hcz17_0 : wc.cell? ⟨gb127, 0, none⟩ = some (.int .i64 a0_0) := (blk_cell BK127.out 0).trans rfl
          have hcz17_1 : wc.cell? ⟨gb127, 1, none⟩ = some (.int .i64 a0_1) := (blk_cell BK127.out 1).trans rfl
          have hcz17_2 : wc.cell? ⟨gb127, 2, none⟩ = some (.int .i64 a0_2) := (blk_cell BK127.out 2).trans rfl
          have hfz17_0 := blk_frozen BK127.out 0
          have hfz17_1 := blk_frozen BK127.out 1
          have hfz17_2 := blk_frozen BK127.out 2
          go_wp2_with (first | ((with_reducible refine gate_callee (f := 39) rfl ?_); refine goesL_ (some 25) rfl rfl Try.func39 (by kernel_rfl) rfl #[.int .i64 a0_0] rfl (by (try simp only [List.map_toArray, List.map_cons, List.map_nil]); first | done | rfl | (simp only [List.length_drop, List.length_take]; rfl)) ?_; (with_reducible refine (impl_hasX.calls a0_0 true _ A14.out).mono ?_); rintro e w' ⟨rfl, ⟨nd, rfl⟩⟩; refine ⟨_, rfl, ?_⟩) | ((with_reducible refine gate_callee (f := 38) rfl ?_); refine goesL_ (some 28) rfl rfl Try.func38 (by kernel_rfl) rfl #[.int .i64 a0_2, .int .i64 1, .int .i64 60] rfl (by (try simp only [List.map_toArray, List.map_cons, List.map_nil]); first | done | rfl | (simp only [List.length_drop, List.length_take]; rfl)) ?_; (with_reducible refine (impl_within.calls a0_2 1 60 t131 _ A16.out).mono ?_); rintro e w' ⟨rfl, ⟨nd, rfl⟩⟩; refine ⟨_, rfl, ?_⟩))
          go_ret
          exact ⟨by first | rfl | (simp [errW_none, errW_some] <;> rfl) | (simp [*, errW_none, errW_some] <;> rfl), by repeat (first | (with_reducible first | exact HB.out | apply below_alloc | apply pw_below_drewN | apply below_drew1 | refine below_set ?_ GE127.out) | exact HB.out)⟩
        · replace c15 := Bool.eq_false_iff.mpr c15
          subst c15
          have H1 : (some (a0_2 == 0)) = some r := by rw [if_neg (show ¬ (false = true) by decide)] at H; exact H
          clear H
          have H := H1
          clear H1
          obtain rfl := Option.some.inj H
          have hcz18_0 : wc.cell? ⟨gb127, 0, none⟩ = some (.int .i64 a0_0) := (blk_cell BK127.out 0).trans rfl
          have hcz18_1 : wc.cell? ⟨gb127, 1, none⟩ = some (.int .i64 a0_1) := (blk_cell BK127.out 1).trans rfl
          have hcz18_2 : wc.cell? ⟨gb127, 2, none⟩ = some (.int .i64 a0_2) := (blk_cell BK127.out 2).trans rfl
          have hfz18_0 := blk_frozen BK127.out 0
          have hfz18_1 := blk_frozen BK127.out 1
          have hfz18_2 := blk_frozen BK127.out 2
          go_wp2_with (first | ((with_reducible refine gate_callee (f := 39) rfl ?_); refine goesL_ (some 25) rfl rfl Try.func39 (by kernel_rfl) rfl #[.int .i64 a0_0] rfl (by (try simp only [List.map_toArray, List.map_cons, List.map_nil]); first | done | rfl | (simp only [List.length_drop, List.length_take]; rfl)) ?_; (with_reducible refine (impl_hasX.calls a0_0 false _ A14.out).mono ?_); rintro e w' ⟨rfl, ⟨nd, rfl⟩⟩; refine ⟨_, rfl, ?_⟩))
          go_ret
          exact ⟨by first | rfl | (simp [errW_none, errW_some] <;> rfl) | (simp [*, errW_none, errW_some] <;> rfl), by repeat (first | (with_reducible first | exact HB.out | apply below_alloc | apply pw_below_drewN | apply below_drew1 | refine below_set ?_ GE127.out) | exact HB.out)⟩

/-! ### impl_UnpackOp: function 12 (by hand) -/
theorem within_tells (a b c : Int) : impl_within.f a b c = some (decide (b ≤ a ∧ a ≤ c)) := by
  unfold impl_within.f
  by_cases h : b ≤ a <;> simp [h]
theorem implHasX_tells (a : Int) : impl_hasX.f a = some (decide (1 ≤ a ∧ a ≤ 3)) := by unfold impl_hasX.f; rw [within_tells]; rfl
theorem implWorker_tells (a : Int) : impl_isWorker.f a = some (decide (0 ≤ a ∧ a ≤ 4)) := by unfold impl_isWorker.f; rw [within_tells]; rfl
theorem implOpOk_tells (k : Nat) (hk : 0 < k) (a t x : Int) : impl_OpOk.f k a t x = some (opB a t x) := by
  obtain ⟨k, rfl⟩ : ∃ m, k = m + 1 := ⟨k - 1, by omega⟩
  unfold impl_OpOk.f
  simp only [within_tells, implHasX_tells, implWorker_tells, Option.bind_some, impl_OpOk.j0, opB]
  simp only [decide_eq_true_eq, reduceIte, Bool.false_eq_true, bne_iff_ne, ne_eq]
  (repeat' split) <;> first | (simp only [Option.some.injEq, decide_eq_decide]; omega) | (symm; simp only [Option.some.injEq, decide_eq_false_iff_not]; omega) | (simp_all; done) | (simp_all; omega) | (rw [Option.some.injEq, eq_comm, Bool.eq_iff_iff]; simp; omega)

set_option maxHeartbeats 8000000 in
set_option maxRecDepth 100000 in
theorem impl_UnpackOp.u_low (A0 : Option Addr) (c0 : Nat) (l0 : List Int) (a1 : Int) (w : World) (hr0 : Kd.C (Kd.int .u8) w A0 l0.length l0) (hc0 : l0.length ≤ c0) (h : a1 < 0) :
    Calls Try.prog 12 #[.slice A0 l0.length c0, .int .i64 a1] w fun e w' => e = .returned (.tuple #[.agg #[.int .i64 0, .int .i64 0, .int .i64 0], .int .i64 (-1)]) ∧ Below w.heap.size w w' := by
  have hu24 := Try.underlying24
  have hl := Kd.C_max hr0
  have FX := Aside0.mk (YtimlccgpeoaigaaX.Fx.start w)
  go_enter Try.func12, Try.ntmps12
  go_wp2_with (first | ((with_reducible refine gate_dst (N := 4) rfl ?_); refine box_event ?hg (N := 4) ?hd (cs := #[.int .i64 0, .int .i64 0, .int .i64 0]) (t := 24) ?hr ?_; (case hd => rfl); (case hg => rfl); (case hr => first | (go_simp; done) | (go_simp; rfl)); intro g4 e3 w2 k4 b5; have FX1 := Aside0.mk (FX.out.alloc e3 k4 b5); clear e3 k4 b5; clear FX; have hcg4_0 := FX1.out.cell 0 0 rfl rfl; have hfg4_0 := FX1.out.free 0 0 rfl; have hcg4_1 := FX1.out.cell 0 1 rfl rfl; have hfg4_1 := FX1.out.free 0 1 rfl; have hcg4_2 := FX1.out.cell 0 2 rfl rfl; have hfg4_2 := FX1.out.free 0 2 rfl) | (go_at_call 38; (with_reducible refine (impl_within.calls _ _ _ false _ (by rw [within_tells]; exact congrArg some (by first | exact decide_eq_true (by omega) | exact decide_eq_false (by omega)))).mono ?_); rintro e w7 ⟨rfl, b8⟩; have FX6 := Aside0.mk (FX1.out.call b8.below); clear b8; clear FX1; clear hcg4_0 hfg4_0 hcg4_1 hfg4_1 hcg4_2 hfg4_2; have hcg4_0 := FX6.out.cell 0 0 rfl rfl; have hfg4_0 := FX6.out.free 0 0 rfl; have hcg4_1 := FX6.out.cell 0 1 rfl rfl; have hfg4_1 := FX6.out.free 0 1 rfl; have hcg4_2 := FX6.out.cell 0 2 rfl rfl; have hfg4_2 := FX6.out.free 0 2 rfl) | ((with_reducible refine gate_store (t := 24) (p := 4) rfl ?_); refine store_event (t := 24) (p := 4) (v := ?vo_w10) (w1 := (((w7.setCell ⟨g4, 0, none⟩ (.int .i64 0)).setCell ⟨g4, 1, none⟩ (.int .i64 0)).setCell ⟨g4, 2, none⟩ (.int .i64 0))) ?hg ?ho ?hn ?hr ?_; (case ho => rfl); (case hg => rfl); (case hn => rfl); (case hr => first | (go_simp; done) | (go_simp; rfl)); intro w10 e11; have FX9 : Aside0 (YtimlccgpeoaigaaX.Fx w w10 [YtimlccgpeoaigaaX.blk g4 24 #[.int .i64 0, .int .i64 0, .int .i64 0]]) := ⟨by rw [e11]; exact (((FX6.out.store 0 rfl 0 (.int .i64 0) #[.int .i64 0, .int .i64 0, .int .i64 0] rfl).store 0 rfl 1 (.int .i64 0) #[.int .i64 0, .int .i64 0, .int .i64 0] rfl).store 0 rfl 2 (.int .i64 0) #[.int .i64 0, .int .i64 0, .int .i64 0] rfl)⟩; clear e11; clear FX6; clear hcg4_0 hfg4_0 hcg4_1 hfg4_1 hcg4_2 hfg4_2; have hcg4_0 := FX9.out.cell 0 0 rfl rfl; have hfg4_0 := FX9.out.free 0 0 rfl; have hcg4_1 := FX9.out.cell 0 1 rfl rfl; have hfg4_1 := FX9.out.free 0 1 rfl; have hcg4_2 := FX9.out.cell 0 2 rfl rfl; have hfg4_2 := FX9.out.free 0 2 rfl))
  exact bodyPost_ret (results_ct rfl _ _ g4 24 #[.int .i64 0, .int .i64 0, .int .i64 0] (0, 0) _ rfl (FX9.out.blkOf 0 rfl) Try.underlying24 rfl (by kernel_rfl)) rfl ⟨rfl, FX9.out.below⟩
set_option maxHeartbeats 8000000 in
set_option maxRecDepth 100000 in
theorem impl_UnpackOp.u_high (A0 : Option Addr) (c0 : Nat) (l0 : List Int) (a1 : Int) (w : World) (hr0 : Kd.C (Kd.int .u8) w A0 l0.length l0) (hc0 : l0.length ≤ c0) (h0 : 0 ≤ a1) (h : (l0.length : Int) ≤ a1) :
    Calls Try.prog 12 #[.slice A0 l0.length c0, .int .i64 a1] w fun e w' => e = .returned (.tuple #[.agg #[.int .i64 0, .int .i64 0, .int .i64 0], .int .i64 (-1)]) ∧ Below w.heap.size w w' := by
  have hu24 := Try.underlying24
  have hl := Kd.C_max hr0
  have FX := Aside0.mk (YtimlccgpeoaigaaX.Fx.start w)
  go_enter Try.func12, Try.ntmps12
  go_wp2_with (first | ((with_reducible refine gate_dst (N := 4) rfl ?_); refine box_event ?hg (N := 4) ?hd (cs := #[.int .i64 0, .int .i64 0, .int .i64 0]) (t := 24) ?hr ?_; (case hd => rfl); (case hg => rfl); (case hr => first | (go_simp; done) | (go_simp; rfl)); intro g4 e3 w2 k4 b5; have FX1 := Aside0.mk (FX.out.alloc e3 k4 b5); clear e3 k4 b5; clear FX; have hcg4_0 := FX1.out.cell 0 0 rfl rfl; have hfg4_0 := FX1.out.free 0 0 rfl; have hcg4_1 := FX1.out.cell 0 1 rfl rfl; have hfg4_1 := FX1.out.free 0 1 rfl; have hcg4_2 := FX1.out.cell 0 2 rfl rfl; have hfg4_2 := FX1.out.free 0 2 rfl) | (go_at_call 38; (with_reducible refine (impl_within.calls _ _ _ false _ (by rw [within_tells]; exact congrArg some (by first | exact decide_eq_true (by omega) | exact decide_eq_false (by omega)))).mono ?_); rintro e w7 ⟨rfl, b8⟩; have FX6 := Aside0.mk (FX1.out.call b8.below); clear b8; clear FX1; clear hcg4_0 hfg4_0 hcg4_1 hfg4_1 hcg4_2 hfg4_2; have hcg4_0 := FX6.out.cell 0 0 rfl rfl; have hfg4_0 := FX6.out.free 0 0 rfl; have hcg4_1 := FX6.out.cell 0 1 rfl rfl; have hfg4_1 := FX6.out.free 0 1 rfl; have hcg4_2 := FX6.out.cell 0 2 rfl rfl; have hfg4_2 := FX6.out.free 0 2 rfl) | ((with_reducible refine gate_store (t := 24) (p := 4) rfl ?_); refine store_event (t := 24) (p := 4) (v := ?vo_w10) (w1 := (((w7.setCell ⟨g4, 0, none⟩ (.int .i64 0)).setCell ⟨g4, 1, none⟩ (.int .i64 0)).setCell ⟨g4, 2, none⟩ (.int .i64 0))) ?hg ?ho ?hn ?hr ?_; (case ho => rfl); (case hg => rfl); (case hn => rfl); (case hr => first | (go_simp; done) | (go_simp; rfl)); intro w10 e11; have FX9 : Aside0 (YtimlccgpeoaigaaX.Fx w w10 [YtimlccgpeoaigaaX.blk g4 24 #[.int .i64 0, .int .i64 0, .int .i64 0]]) := ⟨by rw [e11]; exact (((FX6.out.store 0 rfl 0 (.int .i64 0) #[.int .i64 0, .int .i64 0, .int .i64 0] rfl).store 0 rfl 1 (.int .i64 0) #[.int .i64 0, .int .i64 0, .int .i64 0] rfl).store 0 rfl 2 (.int .i64 0) #[.int .i64 0, .int .i64 0, .int .i64 0] rfl)⟩; clear e11; clear FX6; clear hcg4_0 hfg4_0 hcg4_1 hfg4_1 hcg4_2 hfg4_2; have hcg4_0 := FX9.out.cell 0 0 rfl rfl; have hfg4_0 := FX9.out.free 0 0 rfl; have hcg4_1 := FX9.out.cell 0 1 rfl rfl; have hfg4_1 := FX9.out.free 0 1 rfl; have hcg4_2 := FX9.out.cell 0 2 rfl rfl; have hfg4_2 := FX9.out.free 0 2 rfl))
  exact bodyPost_ret (results_ct rfl _ _ g4 24 #[.int .i64 0, .int .i64 0, .int .i64 0] (0, 0) _ rfl (FX9.out.blkOf 0 rfl) Try.underlying24 rfl (by kernel_rfl)) rfl ⟨rfl, FX9.out.below⟩
set_option maxHeartbeats 8000000 in
set_option maxRecDepth 100000 in
theorem impl_UnpackOp.u_short (A0 : Option Addr) (c0 : Nat) (l0 : List Int) (a1 : Int) (w : World) (hr0 : Kd.C (Kd.int .u8) w A0 l0.length l0) (hc0 : l0.length ≤ c0) (h0 : 0 ≤ a1) (h1 : a1 < (l0.length : Int)) (hkd : decide (1 ≤ wrap64 (Int.tdiv (wrap64 (rd l0 a1)) 5) ∧ wrap64 (Int.tdiv (wrap64 (rd l0 a1)) 5) ≤ 3) = true) (h2 : ¬ a1 + 1 < (l0.length : Int)) :
    Calls Try.prog 12 #[.slice A0 l0.length c0, .int .i64 a1] w fun e w' => e = .returned (.tuple #[.agg #[.int .i64 0, .int .i64 0, .int .i64 0], .int .i64 (-1)]) ∧ Below w.heap.size w w' := by
  have hu24 := Try.underlying24
  have hl := Kd.C_max hr0
  have FX := Aside0.mk (YtimlccgpeoaigaaX.Fx.start w)
  obtain ⟨ad, e0, hx⟩ := Kd.at_int hr0 a1 h0 h1
  subst e0
  have HX := Aside0.mk hx
  clear hx
  have q3 : (a1 + 1 == (l0.length : Int)) = true := beq_iff_eq.mpr (by omega)
  go_enter Try.func12, Try.ntmps12
  go_wp2_with (first | ((with_reducible refine gate_dst (N := 4) rfl ?_); refine box_event ?hg (N := 4) ?hd (cs := #[.int .i64 0, .int .i64 0, .int .i64 0]) (t := 24) ?hr ?_; (case hd => rfl); (case hg => rfl); (case hr => first | (go_simp; done) | (go_simp; rfl)); intro g4 e3 w2 k4 b5; have FX1 := Aside0.mk (FX.out.alloc e3 k4 b5); clear e3 k4 b5; clear FX; have hcg4_0 := FX1.out.cell 0 0 rfl rfl; have hfg4_0 := FX1.out.free 0 0 rfl; have hcg4_1 := FX1.out.cell 0 1 rfl rfl; have hfg4_1 := FX1.out.free 0 1 rfl; have hcg4_2 := FX1.out.cell 0 2 rfl rfl; have hfg4_2 := FX1.out.free 0 2 rfl; have hx := FX1.out.old HX.out) | (go_at_call 38; (with_reducible refine (impl_within.calls _ _ _ true _ (by rw [within_tells]; exact congrArg some (by first | exact decide_eq_true (by omega) | exact decide_eq_false (by omega)))).mono ?_); rintro e w7 ⟨rfl, b8⟩; have FX6 := Aside0.mk (FX1.out.call b8.below); clear b8; clear FX1; clear hcg4_0 hfg4_0 hcg4_1 hfg4_1 hcg4_2 hfg4_2 hx; have hcg4_0 := FX6.out.cell 0 0 rfl rfl; have hfg4_0 := FX6.out.free 0 0 rfl; have hcg4_1 := FX6.out.cell 0 1 rfl rfl; have hfg4_1 := FX6.out.free 0 1 rfl; have hcg4_2 := FX6.out.cell 0 2 rfl rfl; have hfg4_2 := FX6.out.free 0 2 rfl; have hx := FX6.out.old HX.out; have hx2 := fun o => pw_cell_below (below_alloc (Below.refl w7.heap.size w7) o) hx))
  go_region
  clear hx2
  clear hcg4_0 hfg4_0 hcg4_1 hfg4_1 hcg4_2 hfg4_2 hx
  refine YtimlccgpeoaigaaV.gen_then (p := fun W' => ∃ g6, YtimlccgpeoaigaaX.Fx w W' [YtimlccgpeoaigaaX.blk g6 24 #[.int .i64 (wrap64 (Int.tdiv (wrap64 (rd l0 a1)) 5)), .int .i64 (Int.tmod (wrap64 (rd l0 a1)) 5), .int .i64 0], YtimlccgpeoaigaaX.blk g4 24 #[.int .i64 0, .int .i64 0, .int .i64 0]] ∧ g6 = w7.heap.size) ⟨_, (FX6.out.alloc rfl (blk_new _ _) (below_alloc (Below.refl _ _) _)).drew, rfl⟩ ?_
  rintro w6 ⟨g6, fx6, e6⟩
  rw [← e6]
  have FXR := Aside0.mk fx6
  clear fx6 e6 FX6
  have hcg6_0 := FXR.out.cell 0 0 rfl rfl
  have hfg6_0 := FXR.out.free 0 0 rfl
  have hcg6_1 := FXR.out.cell 0 1 rfl rfl
  have hfg6_1 := FXR.out.free 0 1 rfl
  have hcg6_2 := FXR.out.cell 0 2 rfl rfl
  have hfg6_2 := FXR.out.free 0 2 rfl
  have hcg4_0 := FXR.out.cell 1 0 rfl rfl
  have hfg4_0 := FXR.out.free 1 0 rfl
  have hcg4_1 := FXR.out.cell 1 1 rfl rfl
  have hfg4_1 := FXR.out.free 1 1 rfl
  have hcg4_2 := FXR.out.cell 1 2 rfl rfl
  have hfg4_2 := FXR.out.free 1 2 rfl
  have hx := FXR.out.old HX.out
  go_wp2_with (first | (go_at_call 39; (with_reducible refine (impl_hasX.calls _ true _ (by rw [implHasX_tells]; exact congrArg some hkd)).mono ?_); rintro e w10 ⟨rfl, b11⟩; have FX9 := Aside0.mk (FXR.out.call b11.below); clear b11; clear FXR; clear hcg6_0 hfg6_0 hcg6_1 hfg6_1 hcg6_2 hfg6_2 hcg4_0 hfg4_0 hcg4_1 hfg4_1 hcg4_2 hfg4_2 hx; have hcg6_0 := FX9.out.cell 0 0 rfl rfl; have hfg6_0 := FX9.out.free 0 0 rfl; have hcg6_1 := FX9.out.cell 0 1 rfl rfl; have hfg6_1 := FX9.out.free 0 1 rfl; have hcg6_2 := FX9.out.cell 0 2 rfl rfl; have hfg6_2 := FX9.out.free 0 2 rfl; have hcg4_0 := FX9.out.cell 1 0 rfl rfl; have hfg4_0 := FX9.out.free 1 0 rfl; have hcg4_1 := FX9.out.cell 1 1 rfl rfl; have hfg4_1 := FX9.out.free 1 1 rfl; have hcg4_2 := FX9.out.cell 1 2 rfl rfl; have hfg4_2 := FX9.out.free 1 2 rfl; have hx := FX9.out.old HX.out) | ((with_reducible refine gate_store (t := 24) (p := 4) rfl ?_); refine store_event (t := 24) (p := 4) (v := ?vo_w13) (w1 := (((w10.setCell ⟨g4, 0, none⟩ (.int .i64 0)).setCell ⟨g4, 1, none⟩ (.int .i64 0)).setCell ⟨g4, 2, none⟩ (.int .i64 0))) ?hg ?ho ?hn ?hr ?_; (case ho => rfl); (case hg => rfl); (case hn => rfl); (case hr => first | (go_simp; done) | (go_simp; rfl)); intro w13 e14; have FX12 : Aside0 (YtimlccgpeoaigaaX.Fx w w13 [YtimlccgpeoaigaaX.blk g6 24 #[.int .i64 (wrap64 (Int.tdiv (wrap64 (rd l0 a1)) 5)), .int .i64 (Int.tmod (wrap64 (rd l0 a1)) 5), .int .i64 0], YtimlccgpeoaigaaX.blk g4 24 #[.int .i64 0, .int .i64 0, .int .i64 0]]) := ⟨by rw [e14]; exact (((FX9.out.store 1 rfl 0 (.int .i64 0) #[.int .i64 0, .int .i64 0, .int .i64 0] rfl).store 1 rfl 1 (.int .i64 0) #[.int .i64 0, .int .i64 0, .int .i64 0] rfl).store 1 rfl 2 (.int .i64 0) #[.int .i64 0, .int .i64 0, .int .i64 0] rfl)⟩; clear e14; clear FX9; clear hcg6_0 hfg6_0 hcg6_1 hfg6_1 hcg6_2 hfg6_2 hcg4_0 hfg4_0 hcg4_1 hfg4_1 hcg4_2 hfg4_2 hx; have hcg6_0 := FX12.out.cell 0 0 rfl rfl; have hfg6_0 := FX12.out.free 0 0 rfl; have hcg6_1 := FX12.out.cell 0 1 rfl rfl; have hfg6_1 := FX12.out.free 0 1 rfl; have hcg6_2 := FX12.out.cell 0 2 rfl rfl; have hfg6_2 := FX12.out.free 0 2 rfl; have hcg4_0 := FX12.out.cell 1 0 rfl rfl; have hfg4_0 := FX12.out.free 1 0 rfl; have hcg4_1 := FX12.out.cell 1 1 rfl rfl; have hfg4_1 := FX12.out.free 1 1 rfl; have hcg4_2 := FX12.out.cell 1 2 rfl rfl; have hfg4_2 := FX12.out.free 1 2 rfl; have hx := FX12.out.old HX.out))
  exact bodyPost_ret (results_ct rfl _ _ g4 24 #[.int .i64 0, .int .i64 0, .int .i64 0] (0, 0) _ rfl (FX12.out.blkOf 1 rfl) Try.underlying24 rfl (by kernel_rfl)) rfl ⟨rfl, FX12.out.below⟩
set_option maxHeartbeats 8000000 in
set_option maxRecDepth 100000 in
theorem impl_UnpackOp.u_two_true (A0 : Option Addr) (c0 : Nat) (l0 : List Int) (a1 : Int) (w : World) (hr0 : Kd.C (Kd.int .u8) w A0 l0.length l0) (hc0 : l0.length ≤ c0) (h0 : 0 ≤ a1) (h1 : a1 < (l0.length : Int)) (hkd : decide (1 ≤ wrap64 (Int.tdiv (wrap64 (rd l0 a1)) 5) ∧ wrap64 (Int.tdiv (wrap64 (rd l0 a1)) 5) ≤ 3) = true) (h2 : a1 + 1 < (l0.length : Int)) (hok : opB (wrap64 (Int.tdiv (wrap64 (rd l0 a1)) 5)) (Int.tmod (wrap64 (rd l0 a1)) 5) (wrap64 (rd l0 (a1 + 1))) = true) :
    Calls Try.prog 12 #[.slice A0 l0.length c0, .int .i64 a1] w fun e w' => e = .returned (.tuple #[.agg #[.int .i64 (wrap64 (Int.tdiv (wrap64 (rd l0 a1)) 5)), .int .i64 (Int.tmod (wrap64 (rd l0 a1)) 5), .int .i64 (wrap64 (rd l0 (a1 + 1)))], .int .i64 (a1 + 1 + 1)]) ∧ Below w.heap.size w w' := by
  have hu24 := Try.underlying24
  have hl := Kd.C_max hr0
  have FX := Aside0.mk (YtimlccgpeoaigaaX.Fx.start w)
  obtain ⟨ad, e0, hx⟩ := Kd.at_int hr0 a1 h0 h1
  obtain ⟨ad', e1, hy⟩ := Kd.at_int hr0 (a1 + 1) (by omega) h2
  obtain rfl : ad = ad' := by rw [e0] at e1; injection e1
  subst e0
  have HX := Aside0.mk hx
  clear hx
  have HY := Aside0.mk hy
  clear hy
  have q3 : (a1 + 1 == (l0.length : Int)) = false := beq_eq_false_iff_ne.mpr (by omega)
  go_enter Try.func12, Try.ntmps12
  go_wp2_with (first | ((with_reducible refine gate_dst (N := 4) rfl ?_); refine box_event ?hg (N := 4) ?hd (cs := #[.int .i64 0, .int .i64 0, .int .i64 0]) (t := 24) ?hr ?_; (case hd => rfl); (case hg => rfl); (case hr => first | (go_simp; done) | (go_simp; rfl)); intro g4 e3 w2 k4 b5; have FX1 := Aside0.mk (FX.out.alloc e3 k4 b5); clear e3 k4 b5; clear FX; have hcg4_0 := FX1.out.cell 0 0 rfl rfl; have hfg4_0 := FX1.out.free 0 0 rfl; have hcg4_1 := FX1.out.cell 0 1 rfl rfl; have hfg4_1 := FX1.out.free 0 1 rfl; have hcg4_2 := FX1.out.cell 0 2 rfl rfl; have hfg4_2 := FX1.out.free 0 2 rfl; have hx := FX1.out.old HX.out; have hy := FX1.out.old HY.out) | (go_at_call 38; (with_reducible refine (impl_within.calls _ _ _ true _ (by rw [within_tells]; exact congrArg some (by first | exact decide_eq_true (by omega) | exact decide_eq_false (by omega)))).mono ?_); rintro e w7 ⟨rfl, b8⟩; have FX6 := Aside0.mk (FX1.out.call b8.below); clear b8; clear FX1; clear hcg4_0 hfg4_0 hcg4_1 hfg4_1 hcg4_2 hfg4_2 hx hy; have hcg4_0 := FX6.out.cell 0 0 rfl rfl; have hfg4_0 := FX6.out.free 0 0 rfl; have hcg4_1 := FX6.out.cell 0 1 rfl rfl; have hfg4_1 := FX6.out.free 0 1 rfl; have hcg4_2 := FX6.out.cell 0 2 rfl rfl; have hfg4_2 := FX6.out.free 0 2 rfl; have hx := FX6.out.old HX.out; have hy := FX6.out.old HY.out; have hx2 := fun o => pw_cell_below (below_alloc (Below.refl w7.heap.size w7) o) hx))
  go_region
  clear hx2
  clear hcg4_0 hfg4_0 hcg4_1 hfg4_1 hcg4_2 hfg4_2 hx hy
  refine YtimlccgpeoaigaaV.gen_then (p := fun W' => ∃ g6, YtimlccgpeoaigaaX.Fx w W' [YtimlccgpeoaigaaX.blk g6 24 #[.int .i64 (wrap64 (Int.tdiv (wrap64 (rd l0 a1)) 5)), .int .i64 (Int.tmod (wrap64 (rd l0 a1)) 5), .int .i64 0], YtimlccgpeoaigaaX.blk g4 24 #[.int .i64 0, .int .i64 0, .int .i64 0]] ∧ g6 = w7.heap.size) ⟨_, (FX6.out.alloc rfl (blk_new _ _) (below_alloc (Below.refl _ _) _)).drew, rfl⟩ ?_
  rintro w6 ⟨g6, fx6, e6⟩
  rw [← e6]
  have FXR := Aside0.mk fx6
  clear fx6 e6 FX6
  have hcg6_0 := FXR.out.cell 0 0 rfl rfl
  have hfg6_0 := FXR.out.free 0 0 rfl
  have hcg6_1 := FXR.out.cell 0 1 rfl rfl
  have hfg6_1 := FXR.out.free 0 1 rfl
  have hcg6_2 := FXR.out.cell 0 2 rfl rfl
  have hfg6_2 := FXR.out.free 0 2 rfl
  have hcg4_0 := FXR.out.cell 1 0 rfl rfl
  have hfg4_0 := FXR.out.free 1 0 rfl
  have hcg4_1 := FXR.out.cell 1 1 rfl rfl
  have hfg4_1 := FXR.out.free 1 1 rfl
  have hcg4_2 := FXR.out.cell 1 2 rfl rfl
  have hfg4_2 := FXR.out.free 1 2 rfl
  have hx := FXR.out.old HX.out
  have hy := FXR.out.old HY.out
  go_wp2_with (first | (go_at_call 39; (with_reducible refine (impl_hasX.calls _ true _ (by rw [implHasX_tells]; exact congrArg some hkd)).mono ?_); rintro e w10 ⟨rfl, b11⟩; have FX9 := Aside0.mk (FXR.out.call b11.below); clear b11; clear FXR; clear hcg6_0 hfg6_0 hcg6_1 hfg6_1 hcg6_2 hfg6_2 hcg4_0 hfg4_0 hcg4_1 hfg4_1 hcg4_2 hfg4_2 hx hy; have hcg6_0 := FX9.out.cell 0 0 rfl rfl; have hfg6_0 := FX9.out.free 0 0 rfl; have hcg6_1 := FX9.out.cell 0 1 rfl rfl; have hfg6_1 := FX9.out.free 0 1 rfl; have hcg6_2 := FX9.out.cell 0 2 rfl rfl; have hfg6_2 := FX9.out.free 0 2 rfl; have hcg4_0 := FX9.out.cell 1 0 rfl rfl; have hfg4_0 := FX9.out.free 1 0 rfl; have hcg4_1 := FX9.out.cell 1 1 rfl rfl; have hfg4_1 := FX9.out.free 1 1 rfl; have hcg4_2 := FX9.out.cell 1 2 rfl rfl; have hfg4_2 := FX9.out.free 1 2 rfl; have hx := FX9.out.old HX.out; have hy := FX9.out.old HY.out) | ((with_reducible refine gate_store (t := 3) (p := 45) rfl ?_); refine store_event (t := 3) (p := 45) (v := ?vo_w13) (w1 := (w10.setCell ⟨g6, 2, none⟩ (.int .i64 (wrap64 (rd l0 (a1 + 1)))))) ?hg ?ho ?hn ?hr ?_; (case ho => rfl); (case hg => rfl); (case hn => rfl); (case hr => first | (go_simp; done) | (go_simp; rfl)); intro w13 e14; have FX12 : Aside0 (YtimlccgpeoaigaaX.Fx w w13 [YtimlccgpeoaigaaX.blk g6 24 #[.int .i64 (wrap64 (Int.tdiv (wrap64 (rd l0 a1)) 5)), .int .i64 (Int.tmod (wrap64 (rd l0 a1)) 5), .int .i64 (wrap64 (rd l0 (a1 + 1)))], YtimlccgpeoaigaaX.blk g4 24 #[.int .i64 0, .int .i64 0, .int .i64 0]]) := ⟨by rw [e14]; exact (FX9.out.store 0 rfl 2 (.int .i64 (wrap64 (rd l0 (a1 + 1)))) #[.int .i64 (wrap64 (Int.tdiv (wrap64 (rd l0 a1)) 5)), .int .i64 (Int.tmod (wrap64 (rd l0 a1)) 5), .int .i64 (wrap64 (rd l0 (a1 + 1)))] rfl)⟩; clear e14; clear FX9; clear hcg6_0 hfg6_0 hcg6_1 hfg6_1 hcg6_2 hfg6_2 hcg4_0 hfg4_0 hcg4_1 hfg4_1 hcg4_2 hfg4_2 hx hy; have hcg6_0 := FX12.out.cell 0 0 rfl rfl; have hfg6_0 := FX12.out.free 0 0 rfl; have hcg6_1 := FX12.out.cell 0 1 rfl rfl; have hfg6_1 := FX12.out.free 0 1 rfl; have hcg6_2 := FX12.out.cell 0 2 rfl rfl; have hfg6_2 := FX12.out.free 0 2 rfl; have hcg4_0 := FX12.out.cell 1 0 rfl rfl; have hfg4_0 := FX12.out.free 1 0 rfl; have hcg4_1 := FX12.out.cell 1 1 rfl rfl; have hfg4_1 := FX12.out.free 1 1 rfl; have hcg4_2 := FX12.out.cell 1 2 rfl rfl; have hfg4_2 := FX12.out.free 1 2 rfl; have hx := FX12.out.old HX.out; have hy := FX12.out.old HY.out) | (go_at_call 40; (with_reducible refine (impl_OpOk.calls 1 (wrap64 (Int.tdiv (wrap64 (rd l0 a1)) 5)) (Int.tmod (wrap64 (rd l0 a1)) 5) (wrap64 (rd l0 (a1 + 1))) true _ (by rw [implOpOk_tells 1 (by omega)]; exact congrArg some hok)).mono ?_); rintro e w16 ⟨rfl, b17⟩; have FX15 := Aside0.mk (FX12.out.call b17); clear b17; clear FX12; clear hcg6_0 hfg6_0 hcg6_1 hfg6_1 hcg6_2 hfg6_2 hcg4_0 hfg4_0 hcg4_1 hfg4_1 hcg4_2 hfg4_2 hx hy; have hcg6_0 := FX15.out.cell 0 0 rfl rfl; have hfg6_0 := FX15.out.free 0 0 rfl; have hcg6_1 := FX15.out.cell 0 1 rfl rfl; have hfg6_1 := FX15.out.free 0 1 rfl; have hcg6_2 := FX15.out.cell 0 2 rfl rfl; have hfg6_2 := FX15.out.free 0 2 rfl; have hcg4_0 := FX15.out.cell 1 0 rfl rfl; have hfg4_0 := FX15.out.free 1 0 rfl; have hcg4_1 := FX15.out.cell 1 1 rfl rfl; have hfg4_1 := FX15.out.free 1 1 rfl; have hcg4_2 := FX15.out.cell 1 2 rfl rfl; have hfg4_2 := FX15.out.free 1 2 rfl; have hx := FX15.out.old HX.out; have hy := FX15.out.old HY.out) | ((with_reducible refine gate_store (t := 24) (p := 4) rfl ?_); refine store_event (t := 24) (p := 4) (v := ?vo_w19) (w1 := (((w16.setCell ⟨g4, 0, none⟩ (.int .i64 (wrap64 (Int.tdiv (wrap64 (rd l0 a1)) 5)))).setCell ⟨g4, 1, none⟩ (.int .i64 (Int.tmod (wrap64 (rd l0 a1)) 5))).setCell ⟨g4, 2, none⟩ (.int .i64 (wrap64 (rd l0 (a1 + 1)))))) ?hg ?ho ?hn ?hr ?_; (case ho => rfl); (case hg => rfl); (case hn => rfl); (case hr => first | (go_simp; done) | (go_simp; rfl)); intro w19 e20; have FX18 : Aside0 (YtimlccgpeoaigaaX.Fx w w19 [YtimlccgpeoaigaaX.blk g6 24 #[.int .i64 (wrap64 (Int.tdiv (wrap64 (rd l0 a1)) 5)), .int .i64 (Int.tmod (wrap64 (rd l0 a1)) 5), .int .i64 (wrap64 (rd l0 (a1 + 1)))], YtimlccgpeoaigaaX.blk g4 24 #[.int .i64 (wrap64 (Int.tdiv (wrap64 (rd l0 a1)) 5)), .int .i64 (Int.tmod (wrap64 (rd l0 a1)) 5), .int .i64 (wrap64 (rd l0 (a1 + 1)))]]) := ⟨by rw [e20]; exact (((FX15.out.store 1 rfl 0 (.int .i64 (wrap64 (Int.tdiv (wrap64 (rd l0 a1)) 5))) #[.int .i64 (wrap64 (Int.tdiv (wrap64 (rd l0 a1)) 5)), .int .i64 0, .int .i64 0] rfl).store 1 rfl 1 (.int .i64 (Int.tmod (wrap64 (rd l0 a1)) 5)) #[.int .i64 (wrap64 (Int.tdiv (wrap64 (rd l0 a1)) 5)), .int .i64 (Int.tmod (wrap64 (rd l0 a1)) 5), .int .i64 0] rfl).store 1 rfl 2 (.int .i64 (wrap64 (rd l0 (a1 + 1)))) #[.int .i64 (wrap64 (Int.tdiv (wrap64 (rd l0 a1)) 5)), .int .i64 (Int.tmod (wrap64 (rd l0 a1)) 5), .int .i64 (wrap64 (rd l0 (a1 + 1)))] rfl)⟩; clear e20; clear FX15; clear hcg6_0 hfg6_0 hcg6_1 hfg6_1 hcg6_2 hfg6_2 hcg4_0 hfg4_0 hcg4_1 hfg4_1 hcg4_2 hfg4_2 hx hy; have hcg6_0 := FX18.out.cell 0 0 rfl rfl; have hfg6_0 := FX18.out.free 0 0 rfl; have hcg6_1 := FX18.out.cell 0 1 rfl rfl; have hfg6_1 := FX18.out.free 0 1 rfl; have hcg6_2 := FX18.out.cell 0 2 rfl rfl; have hfg6_2 := FX18.out.free 0 2 rfl; have hcg4_0 := FX18.out.cell 1 0 rfl rfl; have hfg4_0 := FX18.out.free 1 0 rfl; have hcg4_1 := FX18.out.cell 1 1 rfl rfl; have hfg4_1 := FX18.out.free 1 1 rfl; have hcg4_2 := FX18.out.cell 1 2 rfl rfl; have hfg4_2 := FX18.out.free 1 2 rfl; have hx := FX18.out.old HX.out; have hy := FX18.out.old HY.out))
  exact bodyPost_ret (results_ct rfl _ _ g4 24 #[.int .i64 (wrap64 (Int.tdiv (wrap64 (rd l0 a1)) 5)), .int .i64 (Int.tmod (wrap64 (rd l0 a1)) 5), .int .i64 (wrap64 (rd l0 (a1 + 1)))] (0, 0) _ rfl (FX18.out.blkOf 1 rfl) Try.underlying24 rfl (by kernel_rfl)) rfl ⟨rfl, FX18.out.below⟩
set_option maxHeartbeats 8000000 in
set_option maxRecDepth 100000 in
theorem impl_UnpackOp.u_one_true (A0 : Option Addr) (c0 : Nat) (l0 : List Int) (a1 : Int) (w : World) (hr0 : Kd.C (Kd.int .u8) w A0 l0.length l0) (hc0 : l0.length ≤ c0) (h0 : 0 ≤ a1) (h1 : a1 < (l0.length : Int)) (hkd : decide (1 ≤ wrap64 (Int.tdiv (wrap64 (rd l0 a1)) 5) ∧ wrap64 (Int.tdiv (wrap64 (rd l0 a1)) 5) ≤ 3) = false) (hok : opB (wrap64 (Int.tdiv (wrap64 (rd l0 a1)) 5)) (Int.tmod (wrap64 (rd l0 a1)) 5) 0 = true) :
    Calls Try.prog 12 #[.slice A0 l0.length c0, .int .i64 a1] w fun e w' => e = .returned (.tuple #[.agg #[.int .i64 (wrap64 (Int.tdiv (wrap64 (rd l0 a1)) 5)), .int .i64 (Int.tmod (wrap64 (rd l0 a1)) 5), .int .i64 0], .int .i64 (a1 + 1)]) ∧ Below w.heap.size w w' := by
  have hu24 := Try.underlying24
  have hl := Kd.C_max hr0
  have FX := Aside0.mk (YtimlccgpeoaigaaX.Fx.start w)
  obtain ⟨ad, e0, hx⟩ := Kd.at_int hr0 a1 h0 h1
  subst e0
  have HX := Aside0.mk hx
  clear hx
  go_enter Try.func12, Try.ntmps12
  go_wp2_with (first | ((with_reducible refine gate_dst (N := 4) rfl ?_); refine box_event ?hg (N := 4) ?hd (cs := #[.int .i64 0, .int .i64 0, .int .i64 0]) (t := 24) ?hr ?_; (case hd => rfl); (case hg => rfl); (case hr => first | (go_simp; done) | (go_simp; rfl)); intro g4 e3 w2 k4 b5; have FX1 := Aside0.mk (FX.out.alloc e3 k4 b5); clear e3 k4 b5; clear FX; have hcg4_0 := FX1.out.cell 0 0 rfl rfl; have hfg4_0 := FX1.out.free 0 0 rfl; have hcg4_1 := FX1.out.cell 0 1 rfl rfl; have hfg4_1 := FX1.out.free 0 1 rfl; have hcg4_2 := FX1.out.cell 0 2 rfl rfl; have hfg4_2 := FX1.out.free 0 2 rfl; have hx := FX1.out.old HX.out) | (go_at_call 38; (with_reducible refine (impl_within.calls _ _ _ true _ (by rw [within_tells]; exact congrArg some (by first | exact decide_eq_true (by omega) | exact decide_eq_false (by omega)))).mono ?_); rintro e w7 ⟨rfl, b8⟩; have FX6 := Aside0.mk (FX1.out.call b8.below); clear b8; clear FX1; clear hcg4_0 hfg4_0 hcg4_1 hfg4_1 hcg4_2 hfg4_2 hx; have hcg4_0 := FX6.out.cell 0 0 rfl rfl; have hfg4_0 := FX6.out.free 0 0 rfl; have hcg4_1 := FX6.out.cell 0 1 rfl rfl; have hfg4_1 := FX6.out.free 0 1 rfl; have hcg4_2 := FX6.out.cell 0 2 rfl rfl; have hfg4_2 := FX6.out.free 0 2 rfl; have hx := FX6.out.old HX.out; have hx2 := fun o => pw_cell_below (below_alloc (Below.refl w7.heap.size w7) o) hx))
  go_region
  clear hx2
  clear hcg4_0 hfg4_0 hcg4_1 hfg4_1 hcg4_2 hfg4_2 hx
  refine YtimlccgpeoaigaaV.gen_then (p := fun W' => ∃ g6, YtimlccgpeoaigaaX.Fx w W' [YtimlccgpeoaigaaX.blk g6 24 #[.int .i64 (wrap64 (Int.tdiv (wrap64 (rd l0 a1)) 5)), .int .i64 (Int.tmod (wrap64 (rd l0 a1)) 5), .int .i64 0], YtimlccgpeoaigaaX.blk g4 24 #[.int .i64 0, .int .i64 0, .int .i64 0]] ∧ g6 = w7.heap.size) ⟨_, (FX6.out.alloc rfl (blk_new _ _) (below_alloc (Below.refl _ _) _)).drew, rfl⟩ ?_
  rintro w6 ⟨g6, fx6, e6⟩
  rw [← e6]
  have FXR := Aside0.mk fx6
  clear fx6 e6 FX6
  have hcg6_0 := FXR.out.cell 0 0 rfl rfl
  have hfg6_0 := FXR.out.free 0 0 rfl
  have hcg6_1 := FXR.out.cell 0 1 rfl rfl
  have hfg6_1 := FXR.out.free 0 1 rfl
  have hcg6_2 := FXR.out.cell 0 2 rfl rfl
  have hfg6_2 := FXR.out.free 0 2 rfl
  have hcg4_0 := FXR.out.cell 1 0 rfl rfl
  have hfg4_0 := FXR.out.free 1 0 rfl
  have hcg4_1 := FXR.out.cell 1 1 rfl rfl
  have hfg4_1 := FXR.out.free 1 1 rfl
  have hcg4_2 := FXR.out.cell 1 2 rfl rfl
  have hfg4_2 := FXR.out.free 1 2 rfl
  have hx := FXR.out.old HX.out
  go_wp2_with (first | (go_at_call 39; (with_reducible refine (impl_hasX.calls _ false _ (by rw [implHasX_tells]; exact congrArg some hkd)).mono ?_); rintro e w10 ⟨rfl, b11⟩; have FX9 := Aside0.mk (FXR.out.call b11.below); clear b11; clear FXR; clear hcg6_0 hfg6_0 hcg6_1 hfg6_1 hcg6_2 hfg6_2 hcg4_0 hfg4_0 hcg4_1 hfg4_1 hcg4_2 hfg4_2 hx; have hcg6_0 := FX9.out.cell 0 0 rfl rfl; have hfg6_0 := FX9.out.free 0 0 rfl; have hcg6_1 := FX9.out.cell 0 1 rfl rfl; have hfg6_1 := FX9.out.free 0 1 rfl; have hcg6_2 := FX9.out.cell 0 2 rfl rfl; have hfg6_2 := FX9.out.free 0 2 rfl; have hcg4_0 := FX9.out.cell 1 0 rfl rfl; have hfg4_0 := FX9.out.free 1 0 rfl; have hcg4_1 := FX9.out.cell 1 1 rfl rfl; have hfg4_1 := FX9.out.free 1 1 rfl; have hcg4_2 := FX9.out.cell 1 2 rfl rfl; have hfg4_2 := FX9.out.free 1 2 rfl; have hx := FX9.out.old HX.out) | (go_at_call 40; (with_reducible refine (impl_OpOk.calls 1 (wrap64 (Int.tdiv (wrap64 (rd l0 a1)) 5)) (Int.tmod (wrap64 (rd l0 a1)) 5) (0) true _ (by rw [implOpOk_tells 1 (by omega)]; exact congrArg some hok)).mono ?_); rintro e w13 ⟨rfl, b14⟩; have FX12 := Aside0.mk (FX9.out.call b14); clear b14; clear FX9; clear hcg6_0 hfg6_0 hcg6_1 hfg6_1 hcg6_2 hfg6_2 hcg4_0 hfg4_0 hcg4_1 hfg4_1 hcg4_2 hfg4_2 hx; have hcg6_0 := FX12.out.cell 0 0 rfl rfl; have hfg6_0 := FX12.out.free 0 0 rfl; have hcg6_1 := FX12.out.cell 0 1 rfl rfl; have hfg6_1 := FX12.out.free 0 1 rfl; have hcg6_2 := FX12.out.cell 0 2 rfl rfl; have hfg6_2 := FX12.out.free 0 2 rfl; have hcg4_0 := FX12.out.cell 1 0 rfl rfl; have hfg4_0 := FX12.out.free 1 0 rfl; have hcg4_1 := FX12.out.cell 1 1 rfl rfl; have hfg4_1 := FX12.out.free 1 1 rfl; have hcg4_2 := FX12.out.cell 1 2 rfl rfl; have hfg4_2 := FX12.out.free 1 2 rfl; have hx := FX12.out.old HX.out) | ((with_reducible refine gate_store (t := 24) (p := 4) rfl ?_); refine store_event (t := 24) (p := 4) (v := ?vo_w16) (w1 := (((w13.setCell ⟨g4, 0, none⟩ (.int .i64 (wrap64 (Int.tdiv (wrap64 (rd l0 a1)) 5)))).setCell ⟨g4, 1, none⟩ (.int .i64 (Int.tmod (wrap64 (rd l0 a1)) 5))).setCell ⟨g4, 2, none⟩ (.int .i64 0))) ?hg ?ho ?hn ?hr ?_; (case ho => rfl); (case hg => rfl); (case hn => rfl); (case hr => first | (go_simp; done) | (go_simp; rfl)); intro w16 e17; have FX15 : Aside0 (YtimlccgpeoaigaaX.Fx w w16 [YtimlccgpeoaigaaX.blk g6 24 #[.int .i64 (wrap64 (Int.tdiv (wrap64 (rd l0 a1)) 5)), .int .i64 (Int.tmod (wrap64 (rd l0 a1)) 5), .int .i64 0], YtimlccgpeoaigaaX.blk g4 24 #[.int .i64 (wrap64 (Int.tdiv (wrap64 (rd l0 a1)) 5)), .int .i64 (Int.tmod (wrap64 (rd l0 a1)) 5), .int .i64 0]]) := ⟨by rw [e17]; exact (((FX12.out.store 1 rfl 0 (.int .i64 (wrap64 (Int.tdiv (wrap64 (rd l0 a1)) 5))) #[.int .i64 (wrap64 (Int.tdiv (wrap64 (rd l0 a1)) 5)), .int .i64 0, .int .i64 0] rfl).store 1 rfl 1 (.int .i64 (Int.tmod (wrap64 (rd l0 a1)) 5)) #[.int .i64 (wrap64 (Int.tdiv (wrap64 (rd l0 a1)) 5)), .int .i64 (Int.tmod (wrap64 (rd l0 a1)) 5), .int .i64 0] rfl).store 1 rfl 2 (.int .i64 0) #[.int .i64 (wrap64 (Int.tdiv (wrap64 (rd l0 a1)) 5)), .int .i64 (Int.tmod (wrap64 (rd l0 a1)) 5), .int .i64 0] rfl)⟩; clear e17; clear FX12; clear hcg6_0 hfg6_0 hcg6_1 hfg6_1 hcg6_2 hfg6_2 hcg4_0 hfg4_0 hcg4_1 hfg4_1 hcg4_2 hfg4_2 hx; have hcg6_0 := FX15.out.cell 0 0 rfl rfl; have hfg6_0 := FX15.out.free 0 0 rfl; have hcg6_1 := FX15.out.cell 0 1 rfl rfl; have hfg6_1 := FX15.out.free 0 1 rfl; have hcg6_2 := FX15.out.cell 0 2 rfl rfl; have hfg6_2 := FX15.out.free 0 2 rfl; have hcg4_0 := FX15.out.cell 1 0 rfl rfl; have hfg4_0 := FX15.out.free 1 0 rfl; have hcg4_1 := FX15.out.cell 1 1 rfl rfl; have hfg4_1 := FX15.out.free 1 1 rfl; have hcg4_2 := FX15.out.cell 1 2 rfl rfl; have hfg4_2 := FX15.out.free 1 2 rfl; have hx := FX15.out.old HX.out))
  exact bodyPost_ret (results_ct rfl _ _ g4 24 #[.int .i64 (wrap64 (Int.tdiv (wrap64 (rd l0 a1)) 5)), .int .i64 (Int.tmod (wrap64 (rd l0 a1)) 5), .int .i64 0] (0, 0) _ rfl (FX15.out.blkOf 1 rfl) Try.underlying24 rfl (by kernel_rfl)) rfl ⟨rfl, FX15.out.below⟩
set_option maxHeartbeats 8000000 in
set_option maxRecDepth 100000 in
theorem impl_UnpackOp.u_two_false (A0 : Option Addr) (c0 : Nat) (l0 : List Int) (a1 : Int) (w : World) (hr0 : Kd.C (Kd.int .u8) w A0 l0.length l0) (hc0 : l0.length ≤ c0) (h0 : 0 ≤ a1) (h1 : a1 < (l0.length : Int)) (hkd : decide (1 ≤ wrap64 (Int.tdiv (wrap64 (rd l0 a1)) 5) ∧ wrap64 (Int.tdiv (wrap64 (rd l0 a1)) 5) ≤ 3) = true) (h2 : a1 + 1 < (l0.length : Int)) (hok : opB (wrap64 (Int.tdiv (wrap64 (rd l0 a1)) 5)) (Int.tmod (wrap64 (rd l0 a1)) 5) (wrap64 (rd l0 (a1 + 1))) = false) :
    Calls Try.prog 12 #[.slice A0 l0.length c0, .int .i64 a1] w fun e w' => e = .returned (.tuple #[.agg #[.int .i64 0, .int .i64 0, .int .i64 0], .int .i64 (-1)]) ∧ Below w.heap.size w w' := by
  have hu24 := Try.underlying24
  have hl := Kd.C_max hr0
  have FX := Aside0.mk (YtimlccgpeoaigaaX.Fx.start w)
  obtain ⟨ad, e0, hx⟩ := Kd.at_int hr0 a1 h0 h1
  obtain ⟨ad', e1, hy⟩ := Kd.at_int hr0 (a1 + 1) (by omega) h2
  obtain rfl : ad = ad' := by rw [e0] at e1; injection e1
  subst e0
  have HX := Aside0.mk hx
  clear hx
  have HY := Aside0.mk hy
  clear hy
  have q3 : (a1 + 1 == (l0.length : Int)) = false := beq_eq_false_iff_ne.mpr (by omega)
  go_enter Try.func12, Try.ntmps12
  go_wp2_with (first | ((with_reducible refine gate_dst (N := 4) rfl ?_); refine box_event ?hg (N := 4) ?hd (cs := #[.int .i64 0, .int .i64 0, .int .i64 0]) (t := 24) ?hr ?_; (case hd => rfl); (case hg => rfl); (case hr => first | (go_simp; done) | (go_simp; rfl)); intro g4 e3 w2 k4 b5; have FX1 := Aside0.mk (FX.out.alloc e3 k4 b5); clear e3 k4 b5; clear FX; have hcg4_0 := FX1.out.cell 0 0 rfl rfl; have hfg4_0 := FX1.out.free 0 0 rfl; have hcg4_1 := FX1.out.cell 0 1 rfl rfl; have hfg4_1 := FX1.out.free 0 1 rfl; have hcg4_2 := FX1.out.cell 0 2 rfl rfl; have hfg4_2 := FX1.out.free 0 2 rfl; have hx := FX1.out.old HX.out; have hy := FX1.out.old HY.out) | (go_at_call 38; (with_reducible refine (impl_within.calls _ _ _ true _ (by rw [within_tells]; exact congrArg some (by first | exact decide_eq_true (by omega) | exact decide_eq_false (by omega)))).mono ?_); rintro e w7 ⟨rfl, b8⟩; have FX6 := Aside0.mk (FX1.out.call b8.below); clear b8; clear FX1; clear hcg4_0 hfg4_0 hcg4_1 hfg4_1 hcg4_2 hfg4_2 hx hy; have hcg4_0 := FX6.out.cell 0 0 rfl rfl; have hfg4_0 := FX6.out.free 0 0 rfl; have hcg4_1 := FX6.out.cell 0 1 rfl rfl; have hfg4_1 := FX6.out.free 0 1 rfl; have hcg4_2 := FX6.out.cell 0 2 rfl rfl; have hfg4_2 := FX6.out.free 0 2 rfl; have hx := FX6.out.old HX.out; have hy := FX6.out.old HY.out; have hx2 := fun o => pw_cell_below (below_alloc (Below.refl w7.heap.size w7) o) hx))
  go_region
  clear hx2
  clear hcg4_0 hfg4_0 hcg4_1 hfg4_1 hcg4_2 hfg4_2 hx hy
  refine YtimlccgpeoaigaaV.gen_then (p := fun W' => ∃ g6, YtimlccgpeoaigaaX.Fx w W' [YtimlccgpeoaigaaX.blk g6 24 #[.int .i64 (wrap64 (Int.tdiv (wrap64 (rd l0 a1)) 5)), .int .i64 (Int.tmod (wrap64 (rd l0 a1)) 5), .int .i64 0], YtimlccgpeoaigaaX.blk g4 24 #[.int .i64 0, .int .i64 0, .int .i64 0]] ∧ g6 = w7.heap.size) ⟨_, (FX6.out.alloc rfl (blk_new _ _) (below_alloc (Below.refl _ _) _)).drew, rfl⟩ ?_
  rintro w6 ⟨g6, fx6, e6⟩
  rw [← e6]
  have FXR := Aside0.mk fx6
  clear fx6 e6 FX6
  have hcg6_0 := FXR.out.cell 0 0 rfl rfl
  have hfg6_0 := FXR.out.free 0 0 rfl
  have hcg6_1 := FXR.out.cell 0 1 rfl rfl
  have hfg6_1 := FXR.out.free 0 1 rfl
  have hcg6_2 := FXR.out.cell 0 2 rfl rfl
  have hfg6_2 := FXR.out.free 0 2 rfl
  have hcg4_0 := FXR.out.cell 1 0 rfl rfl
  have hfg4_0 := FXR.out.free 1 0 rfl
  have hcg4_1 := FXR.out.cell 1 1 rfl rfl
  have hfg4_1 := FXR.out.free 1 1 rfl
  have hcg4_2 := FXR.out.cell 1 2 rfl rfl
  have hfg4_2 := FXR.out.free 1 2 rfl
  have hx := FXR.out.old HX.out
  have hy := FXR.out.old HY.out
  go_wp2_with (first | (go_at_call 39; (with_reducible refine (impl_hasX.calls _ true _ (by rw [implHasX_tells]; exact congrArg some hkd)).mono ?_); rintro e w10 ⟨rfl, b11⟩; have FX9 := Aside0.mk (FXR.out.call b11.below); clear b11; clear FXR; clear hcg6_0 hfg6_0 hcg6_1 hfg6_1 hcg6_2 hfg6_2 hcg4_0 hfg4_0 hcg4_1 hfg4_1 hcg4_2 hfg4_2 hx hy; have hcg6_0 := FX9.out.cell 0 0 rfl rfl; have hfg6_0 := FX9.out.free 0 0 rfl; have hcg6_1 := FX9.out.cell 0 1 rfl rfl; have hfg6_1 := FX9.out.free 0 1 rfl; have hcg6_2 := FX9.out.cell 0 2 rfl rfl; have hfg6_2 := FX9.out.free 0 2 rfl; have hcg4_0 := FX9.out.cell 1 0 rfl rfl; have hfg4_0 := FX9.out.free 1 0 rfl; have hcg4_1 := FX9.out.cell 1 1 rfl rfl; have hfg4_1 := FX9.out.free 1 1 rfl; have hcg4_2 := FX9.out.cell 1 2 rfl rfl; have hfg4_2 := FX9.out.free 1 2 rfl; have hx := FX9.out.old HX.out; have hy := FX9.out.old HY.out) | ((with_reducible refine gate_store (t := 3) (p := 45) rfl ?_); refine store_event (t := 3) (p := 45) (v := ?vo_w13) (w1 := (w10.setCell ⟨g6, 2, none⟩ (.int .i64 (wrap64 (rd l0 (a1 + 1)))))) ?hg ?ho ?hn ?hr ?_; (case ho => rfl); (case hg => rfl); (case hn => rfl); (case hr => first | (go_simp; done) | (go_simp; rfl)); intro w13 e14; have FX12 : Aside0 (YtimlccgpeoaigaaX.Fx w w13 [YtimlccgpeoaigaaX.blk g6 24 #[.int .i64 (wrap64 (Int.tdiv (wrap64 (rd l0 a1)) 5)), .int .i64 (Int.tmod (wrap64 (rd l0 a1)) 5), .int .i64 (wrap64 (rd l0 (a1 + 1)))], YtimlccgpeoaigaaX.blk g4 24 #[.int .i64 0, .int .i64 0, .int .i64 0]]) := ⟨by rw [e14]; exact (FX9.out.store 0 rfl 2 (.int .i64 (wrap64 (rd l0 (a1 + 1)))) #[.int .i64 (wrap64 (Int.tdiv (wrap64 (rd l0 a1)) 5)), .int .i64 (Int.tmod (wrap64 (rd l0 a1)) 5), .int .i64 (wrap64 (rd l0 (a1 + 1)))] rfl)⟩; clear e14; clear FX9; clear hcg6_0 hfg6_0 hcg6_1 hfg6_1 hcg6_2 hfg6_2 hcg4_0 hfg4_0 hcg4_1 hfg4_1 hcg4_2 hfg4_2 hx hy; have hcg6_0 := FX12.out.cell 0 0 rfl rfl; have hfg6_0 := FX12.out.free 0 0 rfl; have hcg6_1 := FX12.out.cell 0 1 rfl rfl; have hfg6_1 := FX12.out.free 0 1 rfl; have hcg6_2 := FX12.out.cell 0 2 rfl rfl; have hfg6_2 := FX12.out.free 0 2 rfl; have hcg4_0 := FX12.out.cell 1 0 rfl rfl; have hfg4_0 := FX12.out.free 1 0 rfl; have hcg4_1 := FX12.out.cell 1 1 rfl rfl; have hfg4_1 := FX12.out.free 1 1 rfl; have hcg4_2 := FX12.out.cell 1 2 rfl rfl; have hfg4_2 := FX12.out.free 1 2 rfl; have hx := FX12.out.old HX.out; have hy := FX12.out.old HY.out) | (go_at_call 40; (with_reducible refine (impl_OpOk.calls 1 (wrap64 (Int.tdiv (wrap64 (rd l0 a1)) 5)) (Int.tmod (wrap64 (rd l0 a1)) 5) (wrap64 (rd l0 (a1 + 1))) false _ (by rw [implOpOk_tells 1 (by omega)]; exact congrArg some hok)).mono ?_); rintro e w16 ⟨rfl, b17⟩; have FX15 := Aside0.mk (FX12.out.call b17); clear b17; clear FX12; clear hcg6_0 hfg6_0 hcg6_1 hfg6_1 hcg6_2 hfg6_2 hcg4_0 hfg4_0 hcg4_1 hfg4_1 hcg4_2 hfg4_2 hx hy; have hcg6_0 := FX15.out.cell 0 0 rfl rfl; have hfg6_0 := FX15.out.free 0 0 rfl; have hcg6_1 := FX15.out.cell 0 1 rfl rfl; have hfg6_1 := FX15.out.free 0 1 rfl; have hcg6_2 := FX15.out.cell 0 2 rfl rfl; have hfg6_2 := FX15.out.free 0 2 rfl; have hcg4_0 := FX15.out.cell 1 0 rfl rfl; have hfg4_0 := FX15.out.free 1 0 rfl; have hcg4_1 := FX15.out.cell 1 1 rfl rfl; have hfg4_1 := FX15.out.free 1 1 rfl; have hcg4_2 := FX15.out.cell 1 2 rfl rfl; have hfg4_2 := FX15.out.free 1 2 rfl; have hx := FX15.out.old HX.out; have hy := FX15.out.old HY.out) | ((with_reducible refine gate_store (t := 24) (p := 4) rfl ?_); refine store_event (t := 24) (p := 4) (v := ?vo_w19) (w1 := (((w16.setCell ⟨g4, 0, none⟩ (.int .i64 0)).setCell ⟨g4, 1, none⟩ (.int .i64 0)).setCell ⟨g4, 2, none⟩ (.int .i64 0))) ?hg ?ho ?hn ?hr ?_; (case ho => rfl); (case hg => rfl); (case hn => rfl); (case hr => first | (go_simp; done) | (go_simp; rfl)); intro w19 e20; have FX18 : Aside0 (YtimlccgpeoaigaaX.Fx w w19 [YtimlccgpeoaigaaX.blk g6 24 #[.int .i64 (wrap64 (Int.tdiv (wrap64 (rd l0 a1)) 5)), .int .i64 (Int.tmod (wrap64 (rd l0 a1)) 5), .int .i64 (wrap64 (rd l0 (a1 + 1)))], YtimlccgpeoaigaaX.blk g4 24 #[.int .i64 0, .int .i64 0, .int .i64 0]]) := ⟨by rw [e20]; exact (((FX15.out.store 1 rfl 0 (.int .i64 0) #[.int .i64 0, .int .i64 0, .int .i64 0] rfl).store 1 rfl 1 (.int .i64 0) #[.int .i64 0, .int .i64 0, .int .i64 0] rfl).store 1 rfl 2 (.int .i64 0) #[.int .i64 0, .int .i64 0, .int .i64 0] rfl)⟩; clear e20; clear FX15; clear hcg6_0 hfg6_0 hcg6_1 hfg6_1 hcg6_2 hfg6_2 hcg4_0 hfg4_0 hcg4_1 hfg4_1 hcg4_2 hfg4_2 hx hy; have hcg6_0 := FX18.out.cell 0 0 rfl rfl; have hfg6_0 := FX18.out.free 0 0 rfl; have hcg6_1 := FX18.out.cell 0 1 rfl rfl; have hfg6_1 := FX18.out.free 0 1 rfl; have hcg6_2 := FX18.out.cell 0 2 rfl rfl; have hfg6_2 := FX18.out.free 0 2 rfl; have hcg4_0 := FX18.out.cell 1 0 rfl rfl; have hfg4_0 := FX18.out.free 1 0 rfl; have hcg4_1 := FX18.out.cell 1 1 rfl rfl; have hfg4_1 := FX18.out.free 1 1 rfl; have hcg4_2 := FX18.out.cell 1 2 rfl rfl; have hfg4_2 := FX18.out.free 1 2 rfl; have hx := FX18.out.old HX.out; have hy := FX18.out.old HY.out))
  exact bodyPost_ret (results_ct rfl _ _ g4 24 #[.int .i64 0, .int .i64 0, .int .i64 0] (0, 0) _ rfl (FX18.out.blkOf 1 rfl) Try.underlying24 rfl (by kernel_rfl)) rfl ⟨rfl, FX18.out.below⟩
set_option maxHeartbeats 8000000 in
set_option maxRecDepth 100000 in
theorem impl_UnpackOp.u_one_false (A0 : Option Addr) (c0 : Nat) (l0 : List Int) (a1 : Int) (w : World) (hr0 : Kd.C (Kd.int .u8) w A0 l0.length l0) (hc0 : l0.length ≤ c0) (h0 : 0 ≤ a1) (h1 : a1 < (l0.length : Int)) (hkd : decide (1 ≤ wrap64 (Int.tdiv (wrap64 (rd l0 a1)) 5) ∧ wrap64 (Int.tdiv (wrap64 (rd l0 a1)) 5) ≤ 3) = false) (hok : opB (wrap64 (Int.tdiv (wrap64 (rd l0 a1)) 5)) (Int.tmod (wrap64 (rd l0 a1)) 5) 0 = false) :
    Calls Try.prog 12 #[.slice A0 l0.length c0, .int .i64 a1] w fun e w' => e = .returned (.tuple #[.agg #[.int .i64 0, .int .i64 0, .int .i64 0], .int .i64 (-1)]) ∧ Below w.heap.size w w' := by
  have hu24 := Try.underlying24
  have hl := Kd.C_max hr0
  have FX := Aside0.mk (YtimlccgpeoaigaaX.Fx.start w)
  obtain ⟨ad, e0, hx⟩ := Kd.at_int hr0 a1 h0 h1
  subst e0
  have HX := Aside0.mk hx
  clear hx
  go_enter Try.func12, Try.ntmps12
  go_wp2_with (first | ((with_reducible refine gate_dst (N := 4) rfl ?_); refine box_event ?hg (N := 4) ?hd (cs := #[.int .i64 0, .int .i64 0, .int .i64 0]) (t := 24) ?hr ?_; (case hd => rfl); (case hg => rfl); (case hr => first | (go_simp; done) | (go_simp; rfl)); intro g4 e3 w2 k4 b5; have FX1 := Aside0.mk (FX.out.alloc e3 k4 b5); clear e3 k4 b5; clear FX; have hcg4_0 := FX1.out.cell 0 0 rfl rfl; have hfg4_0 := FX1.out.free 0 0 rfl; have hcg4_1 := FX1.out.cell 0 1 rfl rfl; have hfg4_1 := FX1.out.free 0 1 rfl; have hcg4_2 := FX1.out.cell 0 2 rfl rfl; have hfg4_2 := FX1.out.free 0 2 rfl; have hx := FX1.out.old HX.out) | (go_at_call 38; (with_reducible refine (impl_within.calls _ _ _ true _ (by rw [within_tells]; exact congrArg some (by first | exact decide_eq_true (by omega) | exact decide_eq_false (by omega)))).mono ?_); rintro e w7 ⟨rfl, b8⟩; have FX6 := Aside0.mk (FX1.out.call b8.below); clear b8; clear FX1; clear hcg4_0 hfg4_0 hcg4_1 hfg4_1 hcg4_2 hfg4_2 hx; have hcg4_0 := FX6.out.cell 0 0 rfl rfl; have hfg4_0 := FX6.out.free 0 0 rfl; have hcg4_1 := FX6.out.cell 0 1 rfl rfl; have hfg4_1 := FX6.out.free 0 1 rfl; have hcg4_2 := FX6.out.cell 0 2 rfl rfl; have hfg4_2 := FX6.out.free 0 2 rfl; have hx := FX6.out.old HX.out; have hx2 := fun o => pw_cell_below (below_alloc (Below.refl w7.heap.size w7) o) hx))
  go_region
  clear hx2
  clear hcg4_0 hfg4_0 hcg4_1 hfg4_1 hcg4_2 hfg4_2 hx
  refine YtimlccgpeoaigaaV.gen_then (p := fun W' => ∃ g6, YtimlccgpeoaigaaX.Fx w W' [YtimlccgpeoaigaaX.blk g6 24 #[.int .i64 (wrap64 (Int.tdiv (wrap64 (rd l0 a1)) 5)), .int .i64 (Int.tmod (wrap64 (rd l0 a1)) 5), .int .i64 0], YtimlccgpeoaigaaX.blk g4 24 #[.int .i64 0, .int .i64 0, .int .i64 0]] ∧ g6 = w7.heap.size) ⟨_, (FX6.out.alloc rfl (blk_new _ _) (below_alloc (Below.refl _ _) _)).drew, rfl⟩ ?_
  rintro w6 ⟨g6, fx6, e6⟩
  rw [← e6]
  have FXR := Aside0.mk fx6
  clear fx6 e6 FX6
  have hcg6_0 := FXR.out.cell 0 0 rfl rfl
  have hfg6_0 := FXR.out.free 0 0 rfl
  have hcg6_1 := FXR.out.cell 0 1 rfl rfl
  have hfg6_1 := FXR.out.free 0 1 rfl
  have hcg6_2 := FXR.out.cell 0 2 rfl rfl
  have hfg6_2 := FXR.out.free 0 2 rfl
  have hcg4_0 := FXR.out.cell 1 0 rfl rfl
  have hfg4_0 := FXR.out.free 1 0 rfl
  have hcg4_1 := FXR.out.cell 1 1 rfl rfl
  have hfg4_1 := FXR.out.free 1 1 rfl
  have hcg4_2 := FXR.out.cell 1 2 rfl rfl
  have hfg4_2 := FXR.out.free 1 2 rfl
  have hx := FXR.out.old HX.out
  go_wp2_with (first | (go_at_call 39; (with_reducible refine (impl_hasX.calls _ false _ (by rw [implHasX_tells]; exact congrArg some hkd)).mono ?_); rintro e w10 ⟨rfl, b11⟩; have FX9 := Aside0.mk (FXR.out.call b11.below); clear b11; clear FXR; clear hcg6_0 hfg6_0 hcg6_1 hfg6_1 hcg6_2 hfg6_2 hcg4_0 hfg4_0 hcg4_1 hfg4_1 hcg4_2 hfg4_2 hx; have hcg6_0 := FX9.out.cell 0 0 rfl rfl; have hfg6_0 := FX9.out.free 0 0 rfl; have hcg6_1 := FX9.out.cell 0 1 rfl rfl; have hfg6_1 := FX9.out.free 0 1 rfl; have hcg6_2 := FX9.out.cell 0 2 rfl rfl; have hfg6_2 := FX9.out.free 0 2 rfl; have hcg4_0 := FX9.out.cell 1 0 rfl rfl; have hfg4_0 := FX9.out.free 1 0 rfl; have hcg4_1 := FX9.out.cell 1 1 rfl rfl; have hfg4_1 := FX9.out.free 1 1 rfl; have hcg4_2 := FX9.out.cell 1 2 rfl rfl; have hfg4_2 := FX9.out.free 1 2 rfl; have hx := FX9.out.old HX.out) | (go_at_call 40; (with_reducible refine (impl_OpOk.calls 1 (wrap64 (Int.tdiv (wrap64 (rd l0 a1)) 5)) (Int.tmod (wrap64 (rd l0 a1)) 5) (0) false _ (by rw [implOpOk_tells 1 (by omega)]; exact congrArg some hok)).mono ?_); rintro e w13 ⟨rfl, b14⟩; have FX12 := Aside0.mk (FX9.out.call b14); clear b14; clear FX9; clear hcg6_0 hfg6_0 hcg6_1 hfg6_1 hcg6_2 hfg6_2 hcg4_0 hfg4_0 hcg4_1 hfg4_1 hcg4_2 hfg4_2 hx; have hcg6_0 := FX12.out.cell 0 0 rfl rfl; have hfg6_0 := FX12.out.free 0 0 rfl; have hcg6_1 := FX12.out.cell 0 1 rfl rfl; have hfg6_1 := FX12.out.free 0 1 rfl; have hcg6_2 := FX12.out.cell 0 2 rfl rfl; have hfg6_2 := FX12.out.free 0 2 rfl; have hcg4_0 := FX12.out.cell 1 0 rfl rfl; have hfg4_0 := FX12.out.free 1 0 rfl; have hcg4_1 := FX12.out.cell 1 1 rfl rfl; have hfg4_1 := FX12.out.free 1 1 rfl; have hcg4_2 := FX12.out.cell 1 2 rfl rfl; have hfg4_2 := FX12.out.free 1 2 rfl; have hx := FX12.out.old HX.out) | ((with_reducible refine gate_store (t := 24) (p := 4) rfl ?_); refine store_event (t := 24) (p := 4) (v := ?vo_w16) (w1 := (((w13.setCell ⟨g4, 0, none⟩ (.int .i64 0)).setCell ⟨g4, 1, none⟩ (.int .i64 0)).setCell ⟨g4, 2, none⟩ (.int .i64 0))) ?hg ?ho ?hn ?hr ?_; (case ho => rfl); (case hg => rfl); (case hn => rfl); (case hr => first | (go_simp; done) | (go_simp; rfl)); intro w16 e17; have FX15 : Aside0 (YtimlccgpeoaigaaX.Fx w w16 [YtimlccgpeoaigaaX.blk g6 24 #[.int .i64 (wrap64 (Int.tdiv (wrap64 (rd l0 a1)) 5)), .int .i64 (Int.tmod (wrap64 (rd l0 a1)) 5), .int .i64 0], YtimlccgpeoaigaaX.blk g4 24 #[.int .i64 0, .int .i64 0, .int .i64 0]]) := ⟨by rw [e17]; exact (((FX12.out.store 1 rfl 0 (.int .i64 0) #[.int .i64 0, .int .i64 0, .int .i64 0] rfl).store 1 rfl 1 (.int .i64 0) #[.int .i64 0, .int .i64 0, .int .i64 0] rfl).store 1 rfl 2 (.int .i64 0) #[.int .i64 0, .int .i64 0, .int .i64 0] rfl)⟩; clear e17; clear FX12; clear hcg6_0 hfg6_0 hcg6_1 hfg6_1 hcg6_2 hfg6_2 hcg4_0 hfg4_0 hcg4_1 hfg4_1 hcg4_2 hfg4_2 hx; have hcg6_0 := FX15.out.cell 0 0 rfl rfl; have hfg6_0 := FX15.out.free 0 0 rfl; have hcg6_1 := FX15.out.cell 0 1 rfl rfl; have hfg6_1 := FX15.out.free 0 1 rfl; have hcg6_2 := FX15.out.cell 0 2 rfl rfl; have hfg6_2 := FX15.out.free 0 2 rfl; have hcg4_0 := FX15.out.cell 1 0 rfl rfl; have hfg4_0 := FX15.out.free 1 0 rfl; have hcg4_1 := FX15.out.cell 1 1 rfl rfl; have hfg4_1 := FX15.out.free 1 1 rfl; have hcg4_2 := FX15.out.cell 1 2 rfl rfl; have hfg4_2 := FX15.out.free 1 2 rfl; have hx := FX15.out.old HX.out))
  exact bodyPost_ret (results_ct rfl _ _ g4 24 #[.int .i64 0, .int .i64 0, .int .i64 0] (0, 0) _ rfl (FX15.out.blkOf 1 rfl) Try.underlying24 rfl (by kernel_rfl)) rfl ⟨rfl, FX15.out.below⟩
def impl_UnpackOp.f (l0 : List Int) (a1 : Int) : Option (Int × Int × Int × Int) := some (unpack l0 a1)
theorem impl_UnpackOp.calls (A0 : Option Addr) (c0 : Nat) (l0 : List Int) (a1 : Int) (r1 : Int) (r2 : Int) (r3 : Int) (r4 : Int) (w : World) (hr0 : Kd.C (Kd.int .u8) w A0 l0.length l0) (hc0 : l0.length ≤ c0) (h : impl_UnpackOp.f l0 a1 = some (r1, r2, r3, r4)) :
    Calls Try.prog 12 #[.slice A0 l0.length c0, .int .i64 a1] w fun e w' => e = .returned (.tuple #[.agg #[.int .i64 r1, .int .i64 r2, .int .i64 r3], .int .i64 r4]) ∧ Below w.heap.size w w' := by
  have h' := Option.some.inj h
  clear h
  unfold unpack at h'
  by_cases h0 : a1 < 0
  · rw [if_pos h0] at h'
    simp only [Prod.mk.injEq] at h'
    obtain ⟨rfl, rfl, rfl, rfl⟩ := h'
    exact impl_UnpackOp.u_low A0 c0 l0 a1 w hr0 hc0 h0
  rw [if_neg h0] at h'
  by_cases h1 : (l0.length : Int) ≤ a1
  · rw [if_pos h1] at h'
    simp only [Prod.mk.injEq] at h'
    obtain ⟨rfl, rfl, rfl, rfl⟩ := h'
    exact impl_UnpackOp.u_high A0 c0 l0 a1 w hr0 hc0 (by omega) h1
  rw [if_neg h1] at h'
  by_cases h2 : 1 ≤ wrap64 (Int.tdiv (wrap64 (rd l0 a1)) 5) ∧ wrap64 (Int.tdiv (wrap64 (rd l0 a1)) 5) ≤ 3
  · rw [if_pos h2] at h'
    by_cases h3 : a1 + 1 < (l0.length : Int)
    · rw [if_pos h3] at h'
      by_cases h4 : opB (wrap64 (Int.tdiv (wrap64 (rd l0 a1)) 5)) (Int.tmod (wrap64 (rd l0 a1)) 5) (wrap64 (rd l0 (a1 + 1))) = true
      · rw [if_pos h4] at h'
        simp only [Prod.mk.injEq] at h'
        obtain ⟨rfl, rfl, rfl, rfl⟩ := h'
        exact impl_UnpackOp.u_two_true A0 c0 l0 a1 w hr0 hc0 (by omega) (by omega) (decide_eq_true h2) h3 h4
      · rw [if_neg h4] at h'
        simp only [Prod.mk.injEq] at h'
        obtain ⟨rfl, rfl, rfl, rfl⟩ := h'
        exact impl_UnpackOp.u_two_false A0 c0 l0 a1 w hr0 hc0 (by omega) (by omega) (decide_eq_true h2) h3 (Bool.eq_false_iff.mpr h4)
    · rw [if_neg h3] at h'
      simp only [Prod.mk.injEq] at h'
      obtain ⟨rfl, rfl, rfl, rfl⟩ := h'
      exact impl_UnpackOp.u_short A0 c0 l0 a1 w hr0 hc0 (by omega) (by omega) (decide_eq_true h2) h3
  · rw [if_neg h2] at h'
    by_cases h4 : opB (wrap64 (Int.tdiv (wrap64 (rd l0 a1)) 5)) (Int.tmod (wrap64 (rd l0 a1)) 5) 0 = true
    · rw [if_pos h4] at h'
      simp only [Prod.mk.injEq] at h'
      obtain ⟨rfl, rfl, rfl, rfl⟩ := h'
      exact impl_UnpackOp.u_one_true A0 c0 l0 a1 w hr0 hc0 (by omega) (by omega) (decide_eq_false h2) h4
    · rw [if_neg h4] at h'
      simp only [Prod.mk.injEq] at h'
      obtain ⟨rfl, rfl, rfl, rfl⟩ := h'
      exact impl_UnpackOp.u_one_false A0 c0 l0 a1 w hr0 hc0 (by omega) (by omega) (decide_eq_false h2) (Bool.eq_false_iff.mpr h4)


/-! ### bytes_Equal: function 54 -/
def bytes_Equal.f (l0 : List Int) (l1 : List Int) : Option (Bool) := some ((strOfNums l0).toList == (strOfNums l1).toList)
set_option maxHeartbeats 8000000 in
set_option maxRecDepth 100000 in
theorem bytes_Equal.calls (A0 : Option Addr) (c0 : Nat) (l0 : List Int) (A1 : Option Addr) (c1 : Nat) (l1 : List Int) (r : Bool) (w : World) (hr0 : Kd.C (Kd.int .u8) w A0 l0.length l0) (hc0 : l0.length ≤ c0) (hr1 : Kd.C (Kd.int .u8) w A1 l1.length l1) (hc1 : l1.length ≤ c1) (h : bytes_Equal.f l0 l1 = some r) :
    Calls Try.prog 54 #[.slice A0 l0.length c0, .slice A1 l1.length c1] w fun e w' => e = .returned (.bool r) ∧ Drawn0 w w' := by
  have HR0 := Aside0.mk hr0
  have HC0 := Aside0.mk hc0
  clear hr0 hc0
  have HR1 := Aside0.mk hr1
  have HC1 := Aside0.mk hc1
  clear hr1 hc1
  have H : (some ((strOfNums l0).toList == (strOfNums l1).toList)) = some r := h
  clear h
  obtain rfl := Option.some.inj H
  have hcv3 := Kd.C_string (P := Try.prog) (A := A0) (c := c0) Try.underlying22 Try.underlying5 Try.underlying9 HR0.out
  have hcv4 := Kd.C_string (P := Try.prog) (A := A1) (c := c1) Try.underlying22 Try.underlying5 Try.underlying9 HR1.out
  go_enter Try.func54, Try.ntmps54
  go_wp2
  go_ret
  exact ⟨by first | rfl | (simp; done) | (simp [*]; done), by repeat (first | exact Drawn0.refl _ | apply Drawn0.step)⟩

/-! ### slices_Clone_byte_byte: function 49 (by hand) -/
def slices_Clone_byte_byte.f (l0 : List Int) : Option (List Int) := if l0.length < 140737488355328 then some l0 else none
set_option maxHeartbeats 8000000 in
set_option maxRecDepth 100000 in
theorem slices_Clone_byte_byte.calls (A0 : Option Addr) (c0 : Nat) (l0 : List Int) (r : List Int) (w : World) (hr0 : Kd.C (Kd.int .u8) w A0 l0.length l0) (hc0 : l0.length ≤ c0) (h : slices_Clone_byte_byte.f l0 = some r) :
    Calls Try.prog 49 #[.slice A0 l0.length c0] w fun e w' => ∃ v0_ : Value, e = .returned v0_ ∧ Kd.R (Kd.int .u8) 5 w' w.heap.size (fun _ => True) v0_ r ∧ Below w.heap.size w w' := by
  unfold slices_Clone_byte_byte.f at h
  by_cases c1 : l0.length < 140737488355328
  · rw [if_pos c1] at h
    obtain rfl := Option.some.inj h
    have C1 := Aside0.mk c1
    clear h c1
    have qT : ∀ (w : World) (a : Option Addr) (n c n' c' : Nat), (binOp .eql 22 (.slice a n c) (.slice none n' c')).run Try.prog w = .ok (.bool a.isNone) w := fun w a n c n' c' => Lib.run_eql_slice_nil w _ _ a n c n' c' Try.underlying22
    cases A0 with
    | none =>
      have h0 : l0.length = 0 := Nat.eq_zero_of_not_pos (fun hp => by obtain ⟨ad, e, _⟩ := hr0.2.2 hp; cases e)
      obtain rfl := List.eq_nil_of_length_eq_zero h0
      clear hr0 h0
      go_enter Try.func49, Try.ntmps49
      go_wp2
      go_ret
      exact ⟨_, rfl, Kd.R_nil _ _ _ _ _, Below.refl _ _⟩
    | some ad =>
      have HR0 := Aside0.mk hr0
      clear hr0
      go_enter Try.func49, Try.ntmps49
      go_wp2_with (first | ((with_reducible refine gate_dst (N := 5) rfl ?_); refine Kd.R_lit (Kd.int .u8) _ 5 ?hg (N := 5) ?hd (xs := ([] : List Int)) (inner := []) (ok := fun _ => True) (okp := fun _ => True) ?hr ?hp (fun _ hk => hk) trivial (Below.refl _ _) (Nat.le_refl _) (by simp) ?_; (case hd => rfl); (case hg => rfl); (case hr => first | (go_simp; done) | (go_simp; rfl)); (case hp => exact (Reps.none _ _)); intro v1 w1 ho1 hb1 hg1 hn1; clear hg1 hn1; have HO := Aside0.mk ho1; have HB := Aside0.mk hb1; clear ho1 hb1) | ((with_reducible refine gate_builtin (b := .append) (xs := #[.tmp 5, .tmp 6]) rfl ?_); at_builtin; refine Kd.R_append_rows (Kd.int .u8) (w0 := w) w.heap.size rfl (.tmp 5) (.tmp 6) 22 5 (.int .u8 0) 1 rfl Try.underlying22 info5 rfl (by decide) (by omega) v1 ([] : List Int) l0 (some ad) l0.length c0 (fun _ => True) (fun _ => False) (by first | rfl | (go_simp; done) | (go_simp; rfl)) (by first | rfl | (go_simp; done) | (go_simp; rfl)) HO.out (Kd.C_below HR0.out HB.out) (fun x cs hk => hk) (fun _ hk => hk.elim) (fun _ _ => trivial) HB.out HB.out.size (by have := C1.out; simp; omega) ?_; intro v2 w2 ho2 hb2 hg2 hn2; clear hg2 hn2; rw [List.nil_append] at ho2; have HO2 := Aside0.mk ho2; have HB2 := Aside0.mk hb2; clear ho2 hb2))
      go_ret
      exact ⟨_, rfl, HO2.out, HB2.out⟩
  · rw [if_neg c1] at h
    cases h

/-! ### impl_SumBytes: function 68 -/
def impl_SumBytes.l0 : Nat → Int → List Int → Int → Int → Option (Int)
  | 0, _, _, _, _ => none
  | k + 1, x3, x6, x7, x8 => if x8 < x7 then (if 0 ≤ x8 then (if x8 < (x6.length : Int) then (impl_SumBytes.l0 k (Int.tmod (wrap64 ((wrap64 (31 * x3)) + (wrap64 (rd x6 x8)))) 65521) x6 x7 (wrap64 (x8 + 1))) else (none)) else (none)) else (some x3)
def impl_SumBytes.f (k : Nat) (l0 : List Int) : Option (Int) := impl_SumBytes.l0 k 1 l0 (l0.length : Int) 0
theorem impl_SumBytes.mono_l : ∀ k, (∀ y0 y1 y2 y3, LeO (impl_SumBytes.l0 k y0 y1 y2 y3) (impl_SumBytes.l0 (k + 1) y0 y1 y2 y3))
  | 0 => fun _ _ _ _ r h => by simp [impl_SumBytes.l0] at h
  | k + 1 => by
    have ih0 := impl_SumBytes.mono_l k
    · intro y0 y1 y2 y3
      unfold impl_SumBytes.l0
      repeat' first
      | (with_reducible exact ih0 _ _ _ _)
      | (with_reducible exact LeO.refl _)
      | (with_reducible exact LeO.none _)
      | (with_reducible refine LeO.ite ?_ ?_)
      | (with_reducible refine LeO.bind ?_ (fun _ => ?_))
      | exact ih0 _ _ _ _
      | exact LeO.none _
      | refine LeO.ite ?_ ?_
      | refine LeO.bind ?_ (fun _ => ?_)
theorem impl_SumBytes.mono : ∀ a0 k, LeO (impl_SumBytes.f k a0) (impl_SumBytes.f (k + 1) a0) := by
  intro a0 k
  have ih0 := impl_SumBytes.mono_l k
  unfold impl_SumBytes.f
  repeat' first
      | (with_reducible exact ih0 _ _ _ _)
      | (with_reducible exact LeO.refl _)
      | (with_reducible exact LeO.none _)
      | (with_reducible refine LeO.ite ?_ ?_)
      | (with_reducible refine LeO.bind ?_ (fun _ => ?_))
      | exact ih0 _ _ _ _
      | exact LeO.none _
      | refine LeO.ite ?_ ?_
      | refine LeO.bind ?_ (fun _ => ?_)
set_option maxHeartbeats 8000000 in
set_option maxRecDepth 100000 in
theorem impl_SumBytes.calls (k : Nat) (A0 : Option Addr) (c0 : Nat) (l0 : List Int) (r : Int) (w : World) (hr0 : Kd.C (Kd.int .u8) w A0 l0.length l0) (hc0 : l0.length ≤ c0) (h : impl_SumBytes.f k l0 = some r) :
    Calls Try.prog 68 #[.slice A0 l0.length c0] w fun e w' => e = .returned (.int .i64 r) ∧ Drawn0 w w' := by
  have HR0 := Aside0.mk hr0
  have HC0 := Aside0.mk hc0
  clear hr0 hc0
  have H : (impl_SumBytes.l0 k 1 l0 (l0.length : Int) 0) = some r := h
  clear h
  have H' := Aside0.mk H
  clear H
  go_enter Try.func68, Try.ntmps68
  go_wp2
  go_loopg [3, 8] k (fun kq v3 v8 w' => ∃ (x3_1 : Int) (x8_1 : Int), v3 = .int .i64 x3_1 ∧ v8 = .int .i64 x8_1 ∧ Aside0 (impl_SumBytes.l0 kq x3_1 l0 (l0.length : Int) x8_1 = some r) ∧ Aside0 (kq ≤ k) ∧ Drawn0 w w')
  case atStart => exact ⟨(1), (0), (by first | rfl | (simp; done) | (simp [*]; done)), (by first | rfl | (simp; done) | (simp [*]; done)), H', ⟨Nat.le_refl _⟩, by repeat (first | exact Drawn0.refl _ | apply Drawn0.step)⟩
  case round =>
    clear H'
    obtain ⟨x3_1, x8_1, rfl, rfl, HA, HK1, ⟨m1, rfl⟩⟩ := hrel
    cases gk with
    | zero => exact absurd HA.out (by simp [impl_SumBytes.l0])
    | succ k1 =>
      have H := HA.out
      clear HA
      simp only [impl_SumBytes.l0] at H
      by_cases c2 : x8_1 < (l0.length : Int)
      · rw [if_pos c2] at H
        have c2b0 : decide (x8_1 < (l0.length : Int)) = true := decide_eq_true c2
        clear c2
        by_cases c3 : 0 ≤ x8_1
        · rw [if_pos c3] at H
          have c3b0 : decide (0 ≤ x8_1) = true := decide_eq_true c3
          clear c3
          by_cases c4 : x8_1 < (l0.length : Int)
          · rw [if_pos c4] at H
            have c4b0 : decide (x8_1 < (l0.length : Int)) = true := decide_eq_true c4
            clear c4
            have H' := Aside0.mk H
            clear H
            have p132 : 0 ≤ (x8_1 : Int) := of_decide_eq_true (by first | (with_reducible assumption) | assumption)
            have q132 : x8_1 < (l0.length : Int) := of_decide_eq_true (by first | (with_reducible assumption) | assumption)
            obtain ⟨ad132, e132, hx132_0⟩ := Kd.at_int HR0.out x8_1 p132 q132
            cases e132
            replace p132 := eq_true p132
            replace q132 := eq_true q132
            go_wp2
            go_roundg k1
            case measure => have := HK1.out; omega
            case rel => exact ⟨(Int.tmod (wrap64 ((wrap64 (31 * x3_1)) + (wrap64 (rd l0 x8_1)))) 65521), (wrap64 (x8_1 + 1)), (by first | rfl | (simp; done) | (simp [*]; done)), (by first | rfl | (simp; done) | (simp [*]; done)), H', ⟨by have := HK1.out; omega⟩, by repeat (first | exact Drawn0.refl _ | apply Drawn0.step)⟩
          · rw [if_neg c4] at H
            exact absurd H (by simp)
        · rw [if_neg c3] at H
          exact absurd H (by simp)
      · rw [if_neg c2] at H
        have c2b0 : decide (x8_1 < (l0.length : Int)) = false := decide_eq_false c2
        clear c2
        obtain rfl := Option.some.inj H
        go_wp2
        go_ret
        exact ⟨by first | rfl | (simp; done) | (simp [*]; done), by repeat (first | exact Drawn0.refl _ | apply Drawn0.step)⟩

/-! ### impl_sealed: function 61 -/
def impl_sealed.f (k : Nat) (l0 : List Int) : Option (List Int) := (impl_SumBytes.f k l0).bind fun t133 => ((slices_Clone_byte_byte.f l0).bind fun t134 => ((some (([(t133 / 256) % 256, (t133) % 256] : List Int) : List Int)).bind fun y137 => (if t134.length + y137.length < 140737488355328 then (some (t134 ++ y137)) else (none))))
theorem impl_sealed.mono : ∀ a0 k, LeO (impl_sealed.f k a0) (impl_sealed.f (k + 1) a0) := by
  intro a0 k
  unfold impl_sealed.f
  repeat' first
      | (with_reducible exact impl_SumBytes.mono _ _)
      | (with_reducible exact LeO.refl _)
      | (with_reducible exact LeO.none _)
      | (with_reducible refine LeO.ite ?_ ?_)
      | (with_reducible refine LeO.bind ?_ (fun _ => ?_))
      | exact impl_SumBytes.mono _ _
      | exact LeO.none _
      | refine LeO.ite ?_ ?_
      | refine LeO.bind ?_ (fun _ => ?_)
set_option maxHeartbeats 8000000 in
set_option maxRecDepth 100000 in
theorem impl_sealed.calls (k : Nat) (A0 : Option Addr) (c0 : Nat) (l0 : List Int) (r : List Int) (w : World) (hr0 : Kd.C (Kd.int .u8) w A0 l0.length l0) (hc0 : l0.length ≤ c0) (h : impl_sealed.f k l0 = some r) :
    Calls Try.prog 61 #[.slice A0 l0.length c0] w fun e w' => ∃ v0_ : Value, e = .returned (v0_) ∧ Kd.R (Kd.int .u8) 5 w' w.heap.size (fun _ => True) v0_ r ∧ Below w.heap.size w w' := by
  have HR0 := Aside0.mk hr0
  have HC0 := Aside0.mk hc0
  clear hr0 hc0
  have HB := Aside0.mk (Below.refl w.heap.size w)
  have H : ((impl_SumBytes.f k l0).bind fun t133 => ((slices_Clone_byte_byte.f l0).bind fun t134 => ((some (([(t133 / 256) % 256, (t133) % 256] : List Int) : List Int)).bind fun y137 => (if t134.length + y137.length < 140737488355328 then (some (t134 ++ y137)) else (none))))) = some r := h
  clear h
  replace H := Option.bind_eq_some_iff.mp H
  obtain ⟨t133, A20, H⟩ := H
  replace H : ((slices_Clone_byte_byte.f l0).bind fun t134 => ((some (([(t133 / 256) % 256, (t133) % 256] : List Int) : List Int)).bind fun y137 => (if t134.length + y137.length < 140737488355328 then (some (t134 ++ y137)) else (none)))) = some r := H
  have A2 := Aside0.mk A20
  clear A20
  replace H := Option.bind_eq_some_iff.mp H
  obtain ⟨t134, A30, H⟩ := H
  replace H : ((some (([(t133 / 256) % 256, (t133) % 256] : List Int) : List Int)).bind fun y137 => (if t134.length + y137.length < 140737488355328 then (some (t134 ++ y137)) else (none))) = some r := H
  have A3 := Aside0.mk A30
  clear A30
  obtain ⟨y137, hy137⟩ : ∃ y_ : List Int, y_ = (([(t133 / 256) % 256, (t133) % 256] : List Int)) := ⟨_, rfl⟩
  replace H : (if t134.length + y137.length < 140737488355328 then (some (t134 ++ y137)) else (none)) = some r := by first | (rw [hy137]; with_reducible exact H) | (have H2_ := (Option.bind_some _ _).symm.trans H; rw [hy137]; with_reducible exact H2_) | (have H2_ := (Option.bind_some _ _).symm.trans H; with_reducible exact H2_) | with_reducible exact H | (rw [hy137]; exact H) | exact H
  have Ny137 := Aside0.mk hy137
  clear hy137
  by_cases c4 : t134.length + y137.length < 140737488355328
  · rw [if_pos c4] at H
    have LMc4 := Aside0.mk c4
    clear c4
    obtain ⟨y140, hy140⟩ : ∃ y_ : List Int, y_ = (t134 ++ y137) := ⟨_, rfl⟩
    replace H : (some y140) = some r := by first | (rw [hy140]; with_reducible exact H) | (have H2_ := (Option.bind_some _ _).symm.trans H; rw [hy140]; with_reducible exact H2_) | (have H2_ := (Option.bind_some _ _).symm.trans H; with_reducible exact H2_) | with_reducible exact H | (rw [hy140]; exact H) | exact H
    have Ny140 := Aside0.mk hy140
    clear hy140
    obtain rfl := Option.some.inj H
    go_enter Try.func61, Try.ntmps61
    go_wp2_with (first | ((with_reducible refine gate_callee (f := 68) rfl ?_); refine goesL_ (some 5) rfl rfl Try.func68 (by kernel_rfl) rfl #[.slice A0 l0.length c0] rfl (by (try simp only [List.map_toArray, List.map_cons, List.map_nil]); first | done | rfl | (simp only [List.length_drop, List.length_take]; rfl)) ?_; (with_reducible refine (impl_SumBytes.calls k _ _ l0 t133 _ ?side1 ?side2 A2.out).mono ?_); (case side1 => repeat (first | exact HR0.out | (with_reducible refine Kd.C_alloc ?_ _) | (with_reducible refine Kd.C_drewN ?_ _) | (with_reducible refine Kd.C_drew ?_))); (case side2 => exact HC0.out); rintro e w' ⟨rfl, ⟨nd, rfl⟩⟩; refine ⟨_, rfl, ?_⟩) | ((with_reducible refine gate_callee (f := 49) rfl ?_); refine goesL_ (some 7) rfl rfl Try.func49 (by kernel_rfl) rfl #[.slice A0 l0.length c0] rfl (by (try simp only [List.map_toArray, List.map_cons, List.map_nil]); first | done | rfl | (simp only [List.length_drop, List.length_take]; rfl)) ?_; (with_reducible refine (slices_Clone_byte_byte.calls _ _ l0 t134 _ ?side1 ?side2 A3.out).mono ?_); (case side1 => repeat (first | exact HR0.out | (with_reducible refine Kd.C_alloc ?_ _) | (with_reducible refine Kd.C_drewN ?_ _) | (with_reducible refine Kd.C_drew ?_))); (case side2 => exact HC0.out); rintro e w5 ⟨v135, rfl, ho0, hb⟩; refine ⟨_, rfl, ?_⟩; have n0_ := Aside0.mk (Kd.R_lower ho0 (below_size (by repeat (first | (with_reducible first | exact HB.out | apply below_alloc | apply pw_below_drewN | apply below_drew1) | exact HB.out)))); have n1_ := Aside0.mk (below_step (by repeat (first | (with_reducible first | exact HB.out | apply below_alloc | apply pw_below_drewN | apply below_drew1) | exact HB.out)) hb); clear HB; have HO136 := n0_; have HB := n1_; clear n0_ n1_; (try clear hb); (try clear hb2); (try clear hk); (try clear hi); (try clear ho0)) | ((with_reducible refine gate_dst (N := 13) rfl ?_); refine Kd.R_lit (Kd.int .u8) _ 5 ?hg (N := 13) ?hd (xs := ([(t133 / 256) % 256, (t133) % 256] : List Int)) (inner := [.int .u8 ((t133 / 256) % 256), .int .u8 ((t133) % 256)]) (ok := fun _ => True) (okp := fun _ => True) ?hr ?hp (fun _ hk => hk) trivial (Below.refl _ _) (Nat.le_refl _) (by simp) ?_; (case hd => rfl); (case hg => rfl); (case hr => first | (go_simp; done) | (go_simp; rfl)); (case hp => exact (Reps.one (show Kd.M (Kd.int .u8) _ _ _ ((t133 / 256) % 256) [.int .u8 ((t133 / 256) % 256)] from rfl) (Reps.one (show Kd.M (Kd.int .u8) _ _ _ ((t133) % 256) [.int .u8 ((t133) % 256)] from rfl) (Reps.none _ _)))); intro v138 w6 ho7 hb hg_ hnew_; clear hg_ hnew_; (first | rw [← Ny137.out] at ho7 | (simp only [Int.reduceToNat] at ho7; rw [← Ny137.out] at ho7)); have n0_ := Aside0.mk (Kd.R_elder' (by (with_reducible repeat (first | apply Kd.R_alloc | apply Kd.R_drewN | apply Kd.R_drew)); exact HO136.out) (Kd.R_base ho7) hb); have n1_ := Aside0.mk (Kd.R_lower (Kd.R_new' ho7 (Kd.R_lt (by (with_reducible repeat (first | apply Kd.R_alloc | apply Kd.R_drewN | apply Kd.R_drew)); exact HO136.out))) (below_size (by repeat (first | (with_reducible first | exact HB.out | apply below_alloc | apply pw_below_drewN | apply below_drew1) | exact HB.out)))); have n2_ := Aside0.mk (below_step (by repeat (first | (with_reducible first | exact HB.out | apply below_alloc | apply pw_below_drewN | apply below_drew1) | exact HB.out)) hb); clear HO136; clear HB; have HO136 := n0_; have HO139 := n1_; have HB := n2_; clear n0_ n1_ n2_; clear hb ho7; obtain ⟨Ao9, co9, eo9⟩ := Kd.R_slice HO139.out; subst eo9) | ((with_reducible refine gate_builtin (b := .append) (xs := #[.tmp 7, .tmp 13]) rfl ?_); at_builtin; refine Kd.R_append_rows (Kd.int .u8) (w0 := w) w.heap.size rfl (.tmp 7) (.tmp 13) 22 5 (.int .u8 0) 1 rfl Try.underlying22 info5 rfl (by decide) (by omega) v135 t134 y137 _ _ _ (fun k_ => some k_ ≠ (.slice Ao9 y137.length co9 : Value).ownBlock) (fun _ => False) rfl rfl ?aO ?aR (fun _ _ h => h) (fun _ h => h.elim) ?aF ?aB ?aS ?aL ?_; (case aR => repeat (first | exact (Kd.R_reads' HO139.out).2.2 | (with_reducible refine Kd.C_alloc ?_ _) | (with_reducible refine Kd.C_drewN ?_ _) | (with_reducible refine Kd.C_drew ?_))); (case aB => exact (by repeat (first | (with_reducible first | exact HB.out | apply below_alloc | apply pw_below_drewN | apply below_drew1) | exact HB.out))); (case aF => exact (fun k_ hk => Kd.fresh' (Kd.R_lt (by (with_reducible repeat (first | apply Kd.R_alloc | apply Kd.R_drewN | apply Kd.R_drew)); exact HO139.out)) k_ hk)); (case aO => exact (by (with_reducible repeat (first | apply Kd.R_alloc | apply Kd.R_drewN | apply Kd.R_drew)); exact Kd.R_mono HO136.out (fun _ hk => hk.2))); (case aS => exact (below_size (by repeat (first | (with_reducible first | exact HB.out | apply below_alloc | apply pw_below_drewN | apply below_drew1) | exact HB.out)))); (case aL => have := LMc4.out; omega); intro v141 w8 ho hb hg hat; rw [← Ny140.out] at ho; have n0_ := Aside0.mk (Kd.R_after (ok := (fun _ => True)) (by (with_reducible repeat (first | apply Kd.R_alloc | apply Kd.R_drewN | apply Kd.R_drew)); exact HO139.out) hg hat); have n1_ := Aside0.mk (hb); have n2_ := Aside0.mk (ho); clear HO139; clear HB; clear HO136; have HO139 := n0_; have HB := n1_; have HO142 := n2_; clear n0_ n1_ n2_; clear ho hb hg hat))
    go_ret
    exact ⟨_, by first | rfl | (simp [errW_none, errW_some] <;> rfl) | (simp [*, errW_none, errW_some] <;> rfl), by (with_reducible repeat (first | apply Kd.R_alloc | apply Kd.R_drewN | apply Kd.R_drew)); exact Kd.R_mono HO142.out (fun _ hk => trivial), by repeat (first | (with_reducible first | exact HB.out | apply below_alloc | apply pw_below_drewN | apply below_drew1) | exact HB.out)⟩
  · rw [if_neg c4] at H
    exact absurd H (by simp)

end Go.Proofs.Ytimlccgpeoaigaa.PFnExactScanOps
