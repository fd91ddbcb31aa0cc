-- Written by a program of this session (wip/tools/mkprint2.py over the kit's print); texts of functions that the print does not take are the session's own (ext.py).
import Derived.Test.YtimlccgpeoaigaaPFnExactUnpackOpy0
import Derived.Test.YtimlccgpeoaigaaPFnExactUnpackOpy1
namespace Go.Proofs.Ytimlccgpeoaigaa.PFnExactUnpackOp
open Go.RowKit Go.Proofs.YtimlccgpeoaigaaW.PrintWords Go.Proofs.YtimlccgpeoaigaaW.PrintLast Go.Proofs.YtimlccgpeoaigaaW.PrintMore
attribute [local go_sem] max2_int min2_int max_two min_two max_three min_three max_four min_four   -- for this text's walks alone
set_option linter.unusedVariables false
set_option linter.unusedSimpArgs false

/-! ### impl_OpOk: function 40 -/
def impl_OpOk.j0 : Nat → Bool → Int → Int → Int → Option (Bool)
  | 0, _, _, _, _ => none
  | k + 1, x22, x116000, x116001, x116002 => if x22 = true then (some false) else ((impl_hasX.f x116000).bind fun t118 => (if t118 = true then ((impl_within.f x116002 1 60).bind fun t119 => (some t119)) else (some (x116002 == 0))))
def impl_OpOk.f (k : Nat) (a0_0 : Int) (a0_1 : Int) (a0_2 : Int) : Option (Bool) := (impl_within.f a0_0 0 6).bind fun t116 => (if t116 = true then ((impl_isWorker.f a0_1).bind fun t117 => (if t117 = true then (if a0_0 = 0 then (impl_OpOk.j0 k (a0_1 != 0) a0_0 a0_1 a0_2) else (impl_OpOk.j0 k false a0_0 a0_1 a0_2)) else (impl_OpOk.j0 k true a0_0 a0_1 a0_2))) else (impl_OpOk.j0 k true a0_0 a0_1 a0_2))
theorem impl_OpOk.mono_l : ∀ k, (∀ y0 y1 y2 y3, LeO (impl_OpOk.j0 k y0 y1 y2 y3) (impl_OpOk.j0 (k + 1) y0 y1 y2 y3))
  | 0 => fun _ _ _ _ r h => by simp [impl_OpOk.j0] at h
  | k + 1 => by
    have ih0 := impl_OpOk.mono_l k
    · intro y0 y1 y2 y3
      unfold impl_OpOk.j0
      repeat' first
      | (with_reducible exact ih0 _ _ _ _)
      | (with_reducible exact LeO.refl _)
      | (with_reducible exact LeO.none _)
      | (with_reducible refine LeO.ite ?_ ?_)
      | (with_reducible refine LeO.bind ?_ (fun _ => ?_))
      | exact ih0 _ _ _ _
      | exact LeO.none _
      | refine LeO.ite ?_ ?_
      | refine LeO.bind ?_ (fun _ => ?_)
theorem impl_OpOk.mono : ∀ a0 a1 a2 k, LeO (impl_OpOk.f k a0 a1 a2) (impl_OpOk.f (k + 1) a0 a1 a2) := by
  intro a0 a1 a2 k
  have ih0 := impl_OpOk.mono_l k
  unfold impl_OpOk.f
  repeat' first
      | (with_reducible exact ih0 _ _ _ _)
      | (with_reducible exact LeO.refl _)
      | (with_reducible exact LeO.none _)
      | (with_reducible refine LeO.ite ?_ ?_)
      | (with_reducible refine LeO.bind ?_ (fun _ => ?_))
      | exact ih0 _ _ _ _
      | exact LeO.none _
      | refine LeO.ite ?_ ?_
      | refine LeO.bind ?_ (fun _ => ?_)
set_option maxHeartbeats 8000000 in
set_option maxRecDepth 100000 in
theorem impl_OpOk.calls (k : Nat) (a0_0 : Int) (a0_1 : Int) (a0_2 : Int) (r : Bool) (w : World) (h : impl_OpOk.f k a0_0 a0_1 a0_2 = some r) :
    Calls Try.prog 40 #[.agg #[.int .i64 a0_0, .int .i64 a0_1, .int .i64 a0_2]] w fun e w' => e = .returned (.bool r) ∧ Below w.heap.size w w' := by
  have hu24 := Try.underlying24
  have HB := Aside0.mk (Below.refl w.heap.size w)
  have H : ((impl_within.f a0_0 0 6).bind fun t116 => (if t116 = true then ((impl_isWorker.f a0_1).bind fun t117 => (if t117 = true then (if a0_0 = 0 then (impl_OpOk.j0 k (a0_1 != 0) a0_0 a0_1 a0_2) else (impl_OpOk.j0 k false a0_0 a0_1 a0_2)) else (impl_OpOk.j0 k true a0_0 a0_1 a0_2))) else (impl_OpOk.j0 k true a0_0 a0_1 a0_2))) = some r := h
  clear h
  have HC2 := Aside0.mk H
  clear H
  go_enter Try.func40, Try.ntmps40
  go_upto_region 1 with (first | ((with_reducible refine gate_dst (N := 1) rfl ?_); refine box_event ?hg (N := 1) ?hd (cs := #[.int .i64 a0_0, .int .i64 a0_1, .int .i64 a0_2]) (t := 24) ?hr ?_; (case hd => rfl); (case hg => rfl); (case hr => first | (go_simp; done) | (go_simp; rfl)); intro gb115 hg w3 hbox hb; have n0_ := Aside0.mk (below_step (by repeat (first | (with_reducible first | exact HB.out | apply below_alloc | apply pw_below_drewN | apply below_drew1) | exact HB.out)) hb); have n1_ := Aside0.mk (hbox); have n2_ := Aside0.mk ((by rw [hg]; exact (below_size (by repeat (first | (with_reducible first | exact HB.out | apply below_alloc | apply pw_below_drewN | apply below_drew1) | exact HB.out))) : w.heap.size ≤ gb115)); have n3_ := Aside0.mk ((by rw [hg]; exact (below_size (by repeat (first | (with_reducible first | exact HB.out | apply below_alloc | apply pw_below_drewN | apply below_drew1) | exact HB.out))) : w.heap.size ≤ gb115)); clear HB; have HB := n0_; have BK115 := n1_; have GW115 := n2_; have GE115 := n3_; clear n0_ n1_ n2_ n3_; clear hb hbox hg))
  (try simp only [Act.put, List.setIfInBounds_toArray, List.set_cons_zero, List.set_cons_succ])
  go_cut [22] (fun v22 wc => ∃ (kq : Nat) (x22_1 : Bool), v22 = .bool x22_1 ∧ Aside0 (impl_OpOk.j0 kq x22_1 a0_0 a0_1 a0_2 = some r) ∧ Aside0 (kq ≤ k) ∧ Aside0 (wc.heap[gb115]? = some (.cells #[.int .i64 a0_0, .int .i64 a0_1, .int .i64 a0_2] 24 (0, 0))) ∧ Aside0 (Below w.heap.size w wc))
  case first =>
    have H := HC2.out
    clear HC2
    replace H := Option.bind_eq_some_iff.mp H
    obtain ⟨t116, A40, H⟩ := H
    replace H : (if t116 = true then ((impl_isWorker.f a0_1).bind fun t117 => (if t117 = true then (if a0_0 = 0 then (impl_OpOk.j0 k (a0_1 != 0) a0_0 a0_1 a0_2) else (impl_OpOk.j0 k false a0_0 a0_1 a0_2)) else (impl_OpOk.j0 k true a0_0 a0_1 a0_2))) else (impl_OpOk.j0 k true a0_0 a0_1 a0_2)) = some r := H
    have A4 := Aside0.mk A40
    clear A40
    by_cases c5 : t116 = true
    · subst c5
      have H1 : ((impl_isWorker.f a0_1).bind fun t117 => (if t117 = true then (if a0_0 = 0 then (impl_OpOk.j0 k (a0_1 != 0) a0_0 a0_1 a0_2) else (impl_OpOk.j0 k false a0_0 a0_1 a0_2)) else (impl_OpOk.j0 k true a0_0 a0_1 a0_2))) = some r := by rw [if_pos rfl] at H; exact H
      clear H
      have H := H1
      clear H1
      replace H := Option.bind_eq_some_iff.mp H
      obtain ⟨t117, A60, H⟩ := H
      replace H : (if t117 = true then (if a0_0 = 0 then (impl_OpOk.j0 k (a0_1 != 0) a0_0 a0_1 a0_2) else (impl_OpOk.j0 k false a0_0 a0_1 a0_2)) else (impl_OpOk.j0 k true a0_0 a0_1 a0_2)) = some r := H
      have A6 := Aside0.mk A60
      clear A60
      by_cases c7 : t117 = true
      · subst c7
        have H1 : (if a0_0 = 0 then (impl_OpOk.j0 k (a0_1 != 0) a0_0 a0_1 a0_2) else (impl_OpOk.j0 k false a0_0 a0_1 a0_2)) = some r := by rw [if_pos rfl] at H; exact H
        clear H
        have H := H1
        clear H1
        by_cases c8 : a0_0 = 0
        · rw [if_pos c8] at H
          have c8b0 : (a0_0 == 0) = true := beq_iff_eq.mpr c8
          have c8b1 : (a0_0 != 0) = false := bne_eq_false_iff_eq.mpr c8
          clear c8
          (first | rw [c8b0] | (simp only [i64_w, i32_w]; rw [c8b0]) | skip)
          have H' := Aside0.mk H
          clear H
          have hcz9_0 : w3.cell? ⟨gb115, 0, none⟩ = some (.int .i64 a0_0) := (blk_cell BK115.out 0).trans rfl
          have hcz9_1 : w3.cell? ⟨gb115, 1, none⟩ = some (.int .i64 a0_1) := (blk_cell BK115.out 1).trans rfl
          have hcz9_2 : w3.cell? ⟨gb115, 2, none⟩ = some (.int .i64 a0_2) := (blk_cell BK115.out 2).trans rfl
          have hfz9_0 := blk_frozen BK115.out 0
          have hfz9_1 := blk_frozen BK115.out 1
          have hfz9_2 := blk_frozen BK115.out 2
          go_wp2_with (first | ((with_reducible refine gate_callee (f := 38) rfl ?_); refine goesL_ (some 5) rfl rfl Try.func38 (by kernel_rfl) rfl #[.int .i64 a0_0, .int .i64 0, .int .i64 6] rfl (by (try simp only [List.map_toArray, List.map_cons, List.map_nil]); first | done | rfl | (simp only [List.length_drop, List.length_take]; rfl)) ?_; (with_reducible refine (impl_within.calls a0_0 0 6 true _ A4.out).mono ?_); rintro e w' ⟨rfl, ⟨nd, rfl⟩⟩; refine ⟨_, rfl, ?_⟩) | (go_at_call 58; (with_reducible refine (impl_isWorker.calls a0_1 true _ A6.out).mono ?_); rintro e w' ⟨rfl, ⟨nd, rfl⟩⟩))
          go_meet
          case rel => exact ⟨_, ((a0_1 != 0)), (by first | rfl | (simp; done) | (simp [*]; done)), H', ⟨by first | omega | exact Nat.le_refl _⟩, ⟨by (with_reducible repeat (first | refine blk_drewN ?_ _ | refine blk_drew ?_ | refine blk_alloc ?_ _)); exact BK115.out⟩, ⟨by repeat (first | (with_reducible first | exact HB.out | apply below_alloc | apply pw_below_drewN | apply below_drew1 | refine below_set ?_ GE115.out) | exact HB.out)⟩⟩
        · rw [if_neg c8] at H
          have c8b0 : (a0_0 == 0) = false := beq_eq_false_iff_ne.mpr c8
          have c8b1 : (a0_0 != 0) = true := bne_iff_ne.mpr c8
          (first | rw [c8b0] | (simp only [i64_w, i32_w]; rw [c8b0]) | skip)
          have H' := Aside0.mk H
          clear H
          have hcz10_0 : w3.cell? ⟨gb115, 0, none⟩ = some (.int .i64 a0_0) := (blk_cell BK115.out 0).trans rfl
          have hcz10_1 : w3.cell? ⟨gb115, 1, none⟩ = some (.int .i64 a0_1) := (blk_cell BK115.out 1).trans rfl
          have hcz10_2 : w3.cell? ⟨gb115, 2, none⟩ = some (.int .i64 a0_2) := (blk_cell BK115.out 2).trans rfl
          have hfz10_0 := blk_frozen BK115.out 0
          have hfz10_1 := blk_frozen BK115.out 1
          have hfz10_2 := blk_frozen BK115.out 2
          go_wp2_with (first | ((with_reducible refine gate_callee (f := 38) rfl ?_); refine goesL_ (some 5) rfl rfl Try.func38 (by kernel_rfl) rfl #[.int .i64 a0_0, .int .i64 0, .int .i64 6] rfl (by (try simp only [List.map_toArray, List.map_cons, List.map_nil]); first | done | rfl | (simp only [List.length_drop, List.length_take]; rfl)) ?_; (with_reducible refine (impl_within.calls a0_0 0 6 true _ A4.out).mono ?_); rintro e w' ⟨rfl, ⟨nd, rfl⟩⟩; refine ⟨_, rfl, ?_⟩) | (go_at_call 58; (with_reducible refine (impl_isWorker.calls a0_1 true _ A6.out).mono ?_); rintro e w' ⟨rfl, ⟨nd, rfl⟩⟩))
          go_meet
          case rel => exact ⟨_, (false), (by first | rfl | (simp; done) | (simp [*]; done)), H', ⟨by first | omega | exact Nat.le_refl _⟩, ⟨by (with_reducible repeat (first | refine blk_drewN ?_ _ | refine blk_drew ?_ | refine blk_alloc ?_ _)); exact BK115.out⟩, ⟨by repeat (first | (with_reducible first | exact HB.out | apply below_alloc | apply pw_below_drewN | apply below_drew1 | refine below_set ?_ GE115.out) | exact HB.out)⟩⟩
      · replace c7 := Bool.eq_false_iff.mpr c7
        subst c7
        have H1 : (impl_OpOk.j0 k true a0_0 a0_1 a0_2) = some r := by rw [if_neg (show ¬ (false = true) by decide)] at H; exact H
        clear H
        have H := H1
        clear H1
        have H' := Aside0.mk H
        clear H
        have hcz11_0 : w3.cell? ⟨gb115, 0, none⟩ = some (.int .i64 a0_0) := (blk_cell BK115.out 0).trans rfl
        have hcz11_1 : w3.cell? ⟨gb115, 1, none⟩ = some (.int .i64 a0_1) := (blk_cell BK115.out 1).trans rfl
        have hcz11_2 : w3.cell? ⟨gb115, 2, none⟩ = some (.int .i64 a0_2) := (blk_cell BK115.out 2).trans rfl
        have hfz11_0 := blk_frozen BK115.out 0
        have hfz11_1 := blk_frozen BK115.out 1
        have hfz11_2 := blk_frozen BK115.out 2
        go_wp2_with (first | ((with_reducible refine gate_callee (f := 38) rfl ?_); refine goesL_ (some 5) rfl rfl Try.func38 (by kernel_rfl) rfl #[.int .i64 a0_0, .int .i64 0, .int .i64 6] rfl (by (try simp only [List.map_toArray, List.map_cons, List.map_nil]); first | done | rfl | (simp only [List.length_drop, List.length_take]; rfl)) ?_; (with_reducible refine (impl_within.calls a0_0 0 6 true _ A4.out).mono ?_); rintro e w' ⟨rfl, ⟨nd, rfl⟩⟩; refine ⟨_, rfl, ?_⟩) | (go_at_call 58; (with_reducible refine (impl_isWorker.calls a0_1 false _ A6.out).mono ?_); rintro e w' ⟨rfl, ⟨nd, rfl⟩⟩))
        go_meet
        case rel => exact ⟨_, (true), (by first | rfl | (simp; done) | (simp [*]; done)), H', ⟨by first | omega | exact Nat.le_refl _⟩, ⟨by (with_reducible repeat (first | refine blk_drewN ?_ _ | refine blk_drew ?_ | refine blk_alloc ?_ _)); exact BK115.out⟩, ⟨by repeat (first | (with_reducible first | exact HB.out | apply below_alloc | apply pw_below_drewN | apply below_drew1 | refine below_set ?_ GE115.out) | exact HB.out)⟩⟩
    · replace c5 := Bool.eq_false_iff.mpr c5
      subst c5
      have H1 : (impl_OpOk.j0 k true a0_0 a0_1 a0_2) = some r := by rw [if_neg (show ¬ (false = true) by decide)] at H; exact H
      clear H
      have H := H1
      clear H1
      have H' := Aside0.mk H
      clear H
      have hcz12_0 : w3.cell? ⟨gb115, 0, none⟩ = some (.int .i64 a0_0) := (blk_cell BK115.out 0).trans rfl
      have hcz12_1 : w3.cell? ⟨gb115, 1, none⟩ = some (.int .i64 a0_1) := (blk_cell BK115.out 1).trans rfl
      have hcz12_2 : w3.cell? ⟨gb115, 2, none⟩ = some (.int .i64 a0_2) := (blk_cell BK115.out 2).trans rfl
      have hfz12_0 := blk_frozen BK115.out 0
      have hfz12_1 := blk_frozen BK115.out 1
      have hfz12_2 := blk_frozen BK115.out 2
      go_wp2_with (first | ((with_reducible refine gate_callee (f := 38) rfl ?_); refine goesL_ (some 5) rfl rfl Try.func38 (by kernel_rfl) rfl #[.int .i64 a0_0, .int .i64 0, .int .i64 6] rfl (by (try simp only [List.map_toArray, List.map_cons, List.map_nil]); first | done | rfl | (simp only [List.length_drop, List.length_take]; rfl)) ?_; (with_reducible refine (impl_within.calls a0_0 0 6 false _ A4.out).mono ?_); rintro e w' ⟨rfl, ⟨nd, rfl⟩⟩; refine ⟨_, rfl, ?_⟩))
      go_meet
      case rel => exact ⟨_, (true), (by first | rfl | (simp; done) | (simp [*]; done)), H', ⟨by first | omega | exact Nat.le_refl _⟩, ⟨by (with_reducible repeat (first | refine blk_drewN ?_ _ | refine blk_drew ?_ | refine blk_alloc ?_ _)); exact BK115.out⟩, ⟨by repeat (first | (with_reducible first | exact HB.out | apply below_alloc | apply pw_below_drewN | apply below_drew1 | refine below_set ?_ GE115.out) | exact HB.out)⟩⟩
  case rest =>
    clear HC2
    try clear p2
    try clear c3
    try clear c4
    try clear c5
    try clear c7
    try clear c8
    try clear c8b0
    try clear c8b1
    try clear hcz10_0
    try clear hcz10_1
    try clear hcz10_2
    try clear hcz11_0
    try clear hcz11_1
    try clear hcz11_2
    try clear hcz12_0
    try clear hcz12_1
    try clear hcz12_2
    try clear hcz9_0
    try clear hcz9_1
    try clear hcz9_2
    try clear hfz10_0
    try clear hfz10_1
    try clear hfz10_2
    try clear hfz11_0
    try clear hfz11_1
    try clear hfz11_2
    try clear hfz12_0
    try clear hfz12_1
    try clear hfz12_2
    try clear hfz9_0
    try clear hfz9_1
    try clear hfz9_2
    obtain ⟨kq, x22_1, rfl, HA, HJ1, BK115, HB⟩ := hcut
    cases kq with
    | zero => exact absurd HA.out (by simp [impl_OpOk.j0])
    | succ kj1 =>
      have H := HA.out
      clear HA
      simp only [impl_OpOk.j0] at H
      by_cases c13 : x22_1 = true
      · subst c13
        have H1 : (some false) = some r := by rw [if_pos rfl] at H; exact H
        clear H
        have H := H1
        clear H1
        obtain rfl := Option.some.inj H
        go_wp2
        go_ret
        exact ⟨by first | rfl | (simp [errW_none, errW_some] <;> rfl) | (simp [*, errW_none, errW_some] <;> rfl), by repeat (first | (with_reducible first | exact HB.out | apply below_alloc | apply pw_below_drewN | apply below_drew1 | refine below_set ?_ GE115.out) | exact HB.out)⟩
      · replace c13 := Bool.eq_false_iff.mpr c13
        subst c13
        have H1 : ((impl_hasX.f a0_0).bind fun t118 => (if t118 = true then ((impl_within.f a0_2 1 60).bind fun t119 => (some t119)) else (some (a0_2 == 0)))) = some r := by rw [if_neg (show ¬ (false = true) by decide)] at H; exact H
        clear H
        have H := H1
        clear H1
        replace H := Option.bind_eq_some_iff.mp H
        obtain ⟨t118, A140, H⟩ := H
        replace H : (if t118 = true then ((impl_within.f a0_2 1 60).bind fun t119 => (some t119)) else (some (a0_2 == 0))) = some r := H
        have A14 := Aside0.mk A140
        clear A140
        by_cases c15 : t118 = true
        · subst c15
          have H1 : ((impl_within.f a0_2 1 60).bind fun t119 => (some t119)) = some r := by rw [if_pos rfl] at H; exact H
          clear H
          have H := H1
          clear H1
          replace H := Option.bind_eq_some_iff.mp H
          obtain ⟨t119, A160, H⟩ := H
          replace H : (some t119) = some r := H
          have A16 := Aside0.mk A160
          clear A160
          obtain rfl := Option.some.inj H
          have hcz17_0 : wc.cell? ⟨gb115, 0, none⟩ = some (.int .i64 a0_0) := (blk_cell BK115.out 0).trans rfl
          have hcz17_1 : wc.cell? ⟨gb115, 1, none⟩ = some (.int .i64 a0_1) := (blk_cell BK115.out 1).trans rfl
          have hcz17_2 : wc.cell? ⟨gb115, 2, none⟩ = some (.int .i64 a0_2) := (blk_cell BK115.out 2).trans rfl
          have hfz17_0 := blk_frozen BK115.out 0
          have hfz17_1 := blk_frozen BK115.out 1
          have hfz17_2 := blk_frozen BK115.out 2
          go_wp2_with (first | ((with_reducible refine gate_callee (f := 39) rfl ?_); refine goesL_ (some 25) rfl rfl Try.func39 (by kernel_rfl) rfl #[.int .i64 a0_0] rfl (by (try simp only [List.map_toArray, List.map_cons, List.map_nil]); first | done | rfl | (simp only [List.length_drop, List.length_take]; rfl)) ?_; (with_reducible refine (impl_hasX.calls a0_0 true _ A14.out).mono ?_); rintro e w' ⟨rfl, ⟨nd, rfl⟩⟩; refine ⟨_, rfl, ?_⟩) | ((with_reducible refine gate_callee (f := 38) rfl ?_); refine goesL_ (some 28) rfl rfl Try.func38 (by kernel_rfl) rfl #[.int .i64 a0_2, .int .i64 1, .int .i64 60] rfl (by (try simp only [List.map_toArray, List.map_cons, List.map_nil]); first | done | rfl | (simp only [List.length_drop, List.length_take]; rfl)) ?_; (with_reducible refine (impl_within.calls a0_2 1 60 t119 _ A16.out).mono ?_); rintro e w' ⟨rfl, ⟨nd, rfl⟩⟩; refine ⟨_, rfl, ?_⟩))
          go_ret
          exact ⟨by first | rfl | (simp [errW_none, errW_some] <;> rfl) | (simp [*, errW_none, errW_some] <;> rfl), by repeat (first | (with_reducible first | exact HB.out | apply below_alloc | apply pw_below_drewN | apply below_drew1 | refine below_set ?_ GE115.out) | exact HB.out)⟩
        · replace c15 := Bool.eq_false_iff.mpr c15
          subst c15
          have H1 : (some (a0_2 == 0)) = some r := by rw [if_neg (show ¬ (false = true) by decide)] at H; exact H
          clear H
          have H := H1
          clear H1
          obtain rfl := Option.some.inj H
          have hcz18_0 : wc.cell? ⟨gb115, 0, none⟩ = some (.int .i64 a0_0) := (blk_cell BK115.out 0).trans rfl
          have hcz18_1 : wc.cell? ⟨gb115, 1, none⟩ = some (.int .i64 a0_1) := (blk_cell BK115.out 1).trans rfl
          have hcz18_2 : wc.cell? ⟨gb115, 2, none⟩ = some (.int .i64 a0_2) := (blk_cell BK115.out 2).trans rfl
          have hfz18_0 := blk_frozen BK115.out 0
          have hfz18_1 := blk_frozen BK115.out 1
          have hfz18_2 := blk_frozen BK115.out 2
          go_wp2_with (first | ((with_reducible refine gate_callee (f := 39) rfl ?_); refine goesL_ (some 25) rfl rfl Try.func39 (by kernel_rfl) rfl #[.int .i64 a0_0] rfl (by (try simp only [List.map_toArray, List.map_cons, List.map_nil]); first | done | rfl | (simp only [List.length_drop, List.length_take]; rfl)) ?_; (with_reducible refine (impl_hasX.calls a0_0 false _ A14.out).mono ?_); rintro e w' ⟨rfl, ⟨nd, rfl⟩⟩; refine ⟨_, rfl, ?_⟩))
          go_ret
          exact ⟨by first | rfl | (simp [errW_none, errW_some] <;> rfl) | (simp [*, errW_none, errW_some] <;> rfl), by repeat (first | (with_reducible first | exact HB.out | apply below_alloc | apply pw_below_drewN | apply below_drew1 | refine below_set ?_ GE115.out) | exact HB.out)⟩

/-! ### impl_UnpackOp: function 12 (by hand) -/
theorem within_tells (a b c : Int) : impl_within.f a b c = some (decide (b ≤ a ∧ a ≤ c)) := by
  unfold impl_within.f
  by_cases h : b ≤ a <;> simp [h]
theorem implHasX_tells (a : Int) : impl_hasX.f a = some (decide (1 ≤ a ∧ a ≤ 3)) := by unfold impl_hasX.f; rw [within_tells]; rfl
theorem implWorker_tells (a : Int) : impl_isWorker.f a = some (decide (0 ≤ a ∧ a ≤ 4)) := by unfold impl_isWorker.f; rw [within_tells]; rfl
theorem implOpOk_tells (k : Nat) (hk : 0 < k) (a t x : Int) : impl_OpOk.f k a t x = some (opB a t x) := by
  obtain ⟨k, rfl⟩ : ∃ m, k = m + 1 := ⟨k - 1, by omega⟩
  unfold impl_OpOk.f
  simp only [within_tells, implHasX_tells, implWorker_tells, Option.bind_some, impl_OpOk.j0, opB]
  simp only [decide_eq_true_eq, reduceIte, Bool.false_eq_true, bne_iff_ne, ne_eq]
  (repeat' split) <;> first | (simp only [Option.some.injEq, decide_eq_decide]; omega) | (symm; simp only [Option.some.injEq, decide_eq_false_iff_not]; omega) | (simp_all; done) | (simp_all; omega) | (rw [Option.some.injEq, eq_comm, Bool.eq_iff_iff]; simp; omega)

set_option maxHeartbeats 8000000 in
set_option maxRecDepth 100000 in
theorem impl_UnpackOp.u_low (A0 : Option Addr) (c0 : Nat) (l0 : List Int) (a1 : Int) (w : World) (hr0 : Kd.C (Kd.int .u8) w A0 l0.length l0) (hc0 : l0.length ≤ c0) (h : a1 < 0) :
    Calls Try.prog 12 #[.slice A0 l0.length c0, .int .i64 a1] w fun e w' => e = .returned (.tuple #[.agg #[.int .i64 0, .int .i64 0, .int .i64 0], .int .i64 (-1)]) ∧ Below w.heap.size w w' := by
  have hu24 := Try.underlying24
  have hl := Kd.C_max hr0
  have FX := Aside0.mk (YtimlccgpeoaigaaX.Fx.start w)
  go_enter Try.func12, Try.ntmps12
  go_wp2_with (first | ((with_reducible refine gate_dst (N := 4) rfl ?_); refine box_event ?hg (N := 4) ?hd (cs := #[.int .i64 0, .int .i64 0, .int .i64 0]) (t := 24) ?hr ?_; (case hd => rfl); (case hg => rfl); (case hr => first | (go_simp; done) | (go_simp; rfl)); intro g4 e3 w2 k4 b5; have FX1 := Aside0.mk (FX.out.alloc e3 k4 b5); clear e3 k4 b5; clear FX; have hcg4_0 := FX1.out.cell 0 0 rfl rfl; have hfg4_0 := FX1.out.free 0 0 rfl; have hcg4_1 := FX1.out.cell 0 1 rfl rfl; have hfg4_1 := FX1.out.free 0 1 rfl; have hcg4_2 := FX1.out.cell 0 2 rfl rfl; have hfg4_2 := FX1.out.free 0 2 rfl) | (go_at_call 38; (with_reducible refine (impl_within.calls _ _ _ false _ (by rw [within_tells]; exact congrArg some (by first | exact decide_eq_true (by omega) | exact decide_eq_false (by omega)))).mono ?_); rintro e w7 ⟨rfl, b8⟩; have FX6 := Aside0.mk (FX1.out.call b8.below); clear b8; clear FX1; clear hcg4_0 hfg4_0 hcg4_1 hfg4_1 hcg4_2 hfg4_2; have hcg4_0 := FX6.out.cell 0 0 rfl rfl; have hfg4_0 := FX6.out.free 0 0 rfl; have hcg4_1 := FX6.out.cell 0 1 rfl rfl; have hfg4_1 := FX6.out.free 0 1 rfl; have hcg4_2 := FX6.out.cell 0 2 rfl rfl; have hfg4_2 := FX6.out.free 0 2 rfl) | ((with_reducible refine gate_store (t := 24) (p := 4) rfl ?_); refine store_event (t := 24) (p := 4) (v := ?vo_w10) (w1 := (((w7.setCell ⟨g4, 0, none⟩ (.int .i64 0)).setCell ⟨g4, 1, none⟩ (.int .i64 0)).setCell ⟨g4, 2, none⟩ (.int .i64 0))) ?hg ?ho ?hn ?hr ?_; (case ho => rfl); (case hg => rfl); (case hn => rfl); (case hr => first | (go_simp; done) | (go_simp; rfl)); intro w10 e11; have FX9 : Aside0 (YtimlccgpeoaigaaX.Fx w w10 [YtimlccgpeoaigaaX.blk g4 24 #[.int .i64 0, .int .i64 0, .int .i64 0]]) := ⟨by rw [e11]; exact (((FX6.out.store 0 rfl 0 (.int .i64 0) #[.int .i64 0, .int .i64 0, .int .i64 0] rfl).store 0 rfl 1 (.int .i64 0) #[.int .i64 0, .int .i64 0, .int .i64 0] rfl).store 0 rfl 2 (.int .i64 0) #[.int .i64 0, .int .i64 0, .int .i64 0] rfl)⟩; clear e11; clear FX6; clear hcg4_0 hfg4_0 hcg4_1 hfg4_1 hcg4_2 hfg4_2; have hcg4_0 := FX9.out.cell 0 0 rfl rfl; have hfg4_0 := FX9.out.free 0 0 rfl; have hcg4_1 := FX9.out.cell 0 1 rfl rfl; have hfg4_1 := FX9.out.free 0 1 rfl; have hcg4_2 := FX9.out.cell 0 2 rfl rfl; have hfg4_2 := FX9.out.free 0 2 rfl))
  exact bodyPost_ret (results_ct rfl _ _ g4 24 #[.int .i64 0, .int .i64 0, .int .i64 0] (0, 0) _ rfl (FX9.out.blkOf 0 rfl) Try.underlying24 rfl (by kernel_rfl)) rfl ⟨rfl, FX9.out.below⟩
set_option maxHeartbeats 8000000 in
set_option maxRecDepth 100000 in
theorem impl_UnpackOp.u_high (A0 : Option Addr) (c0 : Nat) (l0 : List Int) (a1 : Int) (w : World) (hr0 : Kd.C (Kd.int .u8) w A0 l0.length l0) (hc0 : l0.length ≤ c0) (h0 : 0 ≤ a1) (h : (l0.length : Int) ≤ a1) :
    Calls Try.prog 12 #[.slice A0 l0.length c0, .int .i64 a1] w fun e w' => e = .returned (.tuple #[.agg #[.int .i64 0, .int .i64 0, .int .i64 0], .int .i64 (-1)]) ∧ Below w.heap.size w w' := by
  have hu24 := Try.underlying24
  have hl := Kd.C_max hr0
  have FX := Aside0.mk (YtimlccgpeoaigaaX.Fx.start w)
  go_enter Try.func12, Try.ntmps12
  go_wp2_with (first | ((with_reducible refine gate_dst (N := 4) rfl ?_); refine box_event ?hg (N := 4) ?hd (cs := #[.int .i64 0, .int .i64 0, .int .i64 0]) (t := 24) ?hr ?_; (case hd => rfl); (case hg => rfl); (case hr => first | (go_simp; done) | (go_simp; rfl)); intro g4 e3 w2 k4 b5; have FX1 := Aside0.mk (FX.out.alloc e3 k4 b5); clear e3 k4 b5; clear FX; have hcg4_0 := FX1.out.cell 0 0 rfl rfl; have hfg4_0 := FX1.out.free 0 0 rfl; have hcg4_1 := FX1.out.cell 0 1 rfl rfl; have hfg4_1 := FX1.out.free 0 1 rfl; have hcg4_2 := FX1.out.cell 0 2 rfl rfl; have hfg4_2 := FX1.out.free 0 2 rfl) | (go_at_call 38; (with_reducible refine (impl_within.calls _ _ _ false _ (by rw [within_tells]; exact congrArg some (by first | exact decide_eq_true (by omega) | exact decide_eq_false (by omega)))).mono ?_); rintro e w7 ⟨rfl, b8⟩; have FX6 := Aside0.mk (FX1.out.call b8.below); clear b8; clear FX1; clear hcg4_0 hfg4_0 hcg4_1 hfg4_1 hcg4_2 hfg4_2; have hcg4_0 := FX6.out.cell 0 0 rfl rfl; have hfg4_0 := FX6.out.free 0 0 rfl; have hcg4_1 := FX6.out.cell 0 1 rfl rfl; have hfg4_1 := FX6.out.free 0 1 rfl; have hcg4_2 := FX6.out.cell 0 2 rfl rfl; have hfg4_2 := FX6.out.free 0 2 rfl) | ((with_reducible refine gate_store (t := 24) (p := 4) rfl ?_); refine store_event (t := 24) (p := 4) (v := ?vo_w10) (w1 := (((w7.setCell ⟨g4, 0, none⟩ (.int .i64 0)).setCell ⟨g4, 1, none⟩ (.int .i64 0)).setCell ⟨g4, 2, none⟩ (.int .i64 0))) ?hg ?ho ?hn ?hr ?_; (case ho => rfl); (case hg => rfl); (case hn => rfl); (case hr => first | (go_simp; done) | (go_simp; rfl)); intro w10 e11; have FX9 : Aside0 (YtimlccgpeoaigaaX.Fx w w10 [YtimlccgpeoaigaaX.blk g4 24 #[.int .i64 0, .int .i64 0, .int .i64 0]]) := ⟨by rw [e11]; exact (((FX6.out.store 0 rfl 0 (.int .i64 0) #[.int .i64 0, .int .i64 0, .int .i64 0] rfl).store 0 rfl 1 (.int .i64 0) #[.int .i64 0, .int .i64 0, .int .i64 0] rfl).store 0 rfl 2 (.int .i64 0) #[.int .i64 0, .int .i64 0, .int .i64 0] rfl)⟩; clear e11; clear FX6; clear hcg4_0 hfg4_0 hcg4_1 hfg4_1 hcg4_2 hfg4_2; have hcg4_0 := FX9.out.cell 0 0 rfl rfl; have hfg4_0 := FX9.out.free 0 0 rfl; have hcg4_1 := FX9.out.cell 0 1 rfl rfl; have hfg4_1 := FX9.out.free 0 1 rfl; have hcg4_2 := FX9.out.cell 0 2 rfl rfl; have hfg4_2 := FX9.out.free 0 2 rfl))
  exact bodyPost_ret (results_ct rfl _ _ g4 24 #[.int .i64 0, .int .i64 0, .int .i64 0] (0, 0) _ rfl (FX9.out.blkOf 0 rfl) Try.underlying24 rfl (by kernel_rfl)) rfl ⟨rfl, FX9.out.below⟩
set_option maxHeartbeats 8000000 in
set_option maxRecDepth 100000 in
theorem impl_UnpackOp.u_short (A0 : Option Addr) (c0 : Nat) (l0 : List Int) (a1 : Int) (w : World) (hr0 : Kd.C (Kd.int .u8) w A0 l0.length l0) (hc0 : l0.length ≤ c0) (h0 : 0 ≤ a1) (h1 : a1 < (l0.length : Int)) (hkd : decide (1 ≤ wrap64 (Int.tdiv (wrap64 (rd l0 a1)) 5) ∧ wrap64 (Int.tdiv (wrap64 (rd l0 a1)) 5) ≤ 3) = true) (h2 : ¬ a1 + 1 < (l0.length : Int)) :
    Calls Try.prog 12 #[.slice A0 l0.length c0, .int .i64 a1] w fun e w' => e = .returned (.tuple #[.agg #[.int .i64 0, .int .i64 0, .int .i64 0], .int .i64 (-1)]) ∧ Below w.heap.size w w' := by
  have hu24 := Try.underlying24
  have hl := Kd.C_max hr0
  have FX := Aside0.mk (YtimlccgpeoaigaaX.Fx.start w)
  obtain ⟨ad, e0, hx⟩ := Kd.at_int hr0 a1 h0 h1
  subst e0
  have HX := Aside0.mk hx
  clear hx
  have q3 : (a1 + 1 == (l0.length : Int)) = true := beq_iff_eq.mpr (by omega)
  go_enter Try.func12, Try.ntmps12
  go_wp2_with (first | ((with_reducible refine gate_dst (N := 4) rfl ?_); refine box_event ?hg (N := 4) ?hd (cs := #[.int .i64 0, .int .i64 0, .int .i64 0]) (t := 24) ?hr ?_; (case hd => rfl); (case hg => rfl); (case hr => first | (go_simp; done) | (go_simp; rfl)); intro g4 e3 w2 k4 b5; have FX1 := Aside0.mk (FX.out.alloc e3 k4 b5); clear e3 k4 b5; clear FX; have hcg4_0 := FX1.out.cell 0 0 rfl rfl; have hfg4_0 := FX1.out.free 0 0 rfl; have hcg4_1 := FX1.out.cell 0 1 rfl rfl; have hfg4_1 := FX1.out.free 0 1 rfl; have hcg4_2 := FX1.out.cell 0 2 rfl rfl; have hfg4_2 := FX1.out.free 0 2 rfl; have hx := FX1.out.old HX.out) | (go_at_call 38; (with_reducible refine (impl_within.calls _ _ _ true _ (by rw [within_tells]; exact congrArg some (by first | exact decide_eq_true (by omega) | exact decide_eq_false (by omega)))).mono ?_); rintro e w7 ⟨rfl, b8⟩; have FX6 := Aside0.mk (FX1.out.call b8.below); clear b8; clear FX1; clear hcg4_0 hfg4_0 hcg4_1 hfg4_1 hcg4_2 hfg4_2 hx; have hcg4_0 := FX6.out.cell 0 0 rfl rfl; have hfg4_0 := FX6.out.free 0 0 rfl; have hcg4_1 := FX6.out.cell 0 1 rfl rfl; have hfg4_1 := FX6.out.free 0 1 rfl; have hcg4_2 := FX6.out.cell 0 2 rfl rfl; have hfg4_2 := FX6.out.free 0 2 rfl; have hx := FX6.out.old HX.out; have hx2 := fun o => pw_cell_below (below_alloc (Below.refl w7.heap.size w7) o) hx))
  go_region
  clear hx2
  clear hcg4_0 hfg4_0 hcg4_1 hfg4_1 hcg4_2 hfg4_2 hx
  refine YtimlccgpeoaigaaV.gen_then (p := fun W' => ∃ g6, YtimlccgpeoaigaaX.Fx w W' [YtimlccgpeoaigaaX.blk g6 24 #[.int .i64 (wrap64 (Int.tdiv (wrap64 (rd l0 a1)) 5)), .int .i64 (Int.tmod (wrap64 (rd l0 a1)) 5), .int .i64 0], YtimlccgpeoaigaaX.blk g4 24 #[.int .i64 0, .int .i64 0, .int .i64 0]] ∧ g6 = w7.heap.size) ⟨_, (FX6.out.alloc rfl (blk_new _ _) (below_alloc (Below.refl _ _) _)).drew, rfl⟩ ?_
  rintro w6 ⟨g6, fx6, e6⟩
  rw [← e6]
  have FXR := Aside0.mk fx6
  clear fx6 e6 FX6
  have hcg6_0 := FXR.out.cell 0 0 rfl rfl
  have hfg6_0 := FXR.out.free 0 0 rfl
  have hcg6_1 := FXR.out.cell 0 1 rfl rfl
  have hfg6_1 := FXR.out.free 0 1 rfl
  have hcg6_2 := FXR.out.cell 0 2 rfl rfl
  have hfg6_2 := FXR.out.free 0 2 rfl
  have hcg4_0 := FXR.out.cell 1 0 rfl rfl
  have hfg4_0 := FXR.out.free 1 0 rfl
  have hcg4_1 := FXR.out.cell 1 1 rfl rfl
  have hfg4_1 := FXR.out.free 1 1 rfl
  have hcg4_2 := FXR.out.cell 1 2 rfl rfl
  have hfg4_2 := FXR.out.free 1 2 rfl
  have hx := FXR.out.old HX.out
  go_wp2_with (first | (go_at_call 39; (with_reducible refine (impl_hasX.calls _ true _ (by rw [implHasX_tells]; exact congrArg some hkd)).mono ?_); rintro e w10 ⟨rfl, b11⟩; have FX9 := Aside0.mk (FXR.out.call b11.below); clear b11; clear FXR; clear hcg6_0 hfg6_0 hcg6_1 hfg6_1 hcg6_2 hfg6_2 hcg4_0 hfg4_0 hcg4_1 hfg4_1 hcg4_2 hfg4_2 hx; have hcg6_0 := FX9.out.cell 0 0 rfl rfl; have hfg6_0 := FX9.out.free 0 0 rfl; have hcg6_1 := FX9.out.cell 0 1 rfl rfl; have hfg6_1 := FX9.out.free 0 1 rfl; have hcg6_2 := FX9.out.cell 0 2 rfl rfl; have hfg6_2 := FX9.out.free 0 2 rfl; have hcg4_0 := FX9.out.cell 1 0 rfl rfl; have hfg4_0 := FX9.out.free 1 0 rfl; have hcg4_1 := FX9.out.cell 1 1 rfl rfl; have hfg4_1 := FX9.out.free 1 1 rfl; have hcg4_2 := FX9.out.cell 1 2 rfl rfl; have hfg4_2 := FX9.out.free 1 2 rfl; have hx := FX9.out.old HX.out) | ((with_reducible refine gate_store (t := 24) (p := 4) rfl ?_); refine store_event (t := 24) (p := 4) (v := ?vo_w13) (w1 := (((w10.setCell ⟨g4, 0, none⟩ (.int .i64 0)).setCell ⟨g4, 1, none⟩ (.int .i64 0)).setCell ⟨g4, 2, none⟩ (.int .i64 0))) ?hg ?ho ?hn ?hr ?_; (case ho => rfl); (case hg => rfl); (case hn => rfl); (case hr => first | (go_simp; done) | (go_simp; rfl)); intro w13 e14; have FX12 : Aside0 (YtimlccgpeoaigaaX.Fx w w13 [YtimlccgpeoaigaaX.blk g6 24 #[.int .i64 (wrap64 (Int.tdiv (wrap64 (rd l0 a1)) 5)), .int .i64 (Int.tmod (wrap64 (rd l0 a1)) 5), .int .i64 0], YtimlccgpeoaigaaX.blk g4 24 #[.int .i64 0, .int .i64 0, .int .i64 0]]) := ⟨by rw [e14]; exact (((FX9.out.store 1 rfl 0 (.int .i64 0) #[.int .i64 0, .int .i64 0, .int .i64 0] rfl).store 1 rfl 1 (.int .i64 0) #[.int .i64 0, .int .i64 0, .int .i64 0] rfl).store 1 rfl 2 (.int .i64 0) #[.int .i64 0, .int .i64 0, .int .i64 0] rfl)⟩; clear e14; clear FX9; clear hcg6_0 hfg6_0 hcg6_1 hfg6_1 hcg6_2 hfg6_2 hcg4_0 hfg4_0 hcg4_1 hfg4_1 hcg4_2 hfg4_2 hx; have hcg6_0 := FX12.out.cell 0 0 rfl rfl; have hfg6_0 := FX12.out.free 0 0 rfl; have hcg6_1 := FX12.out.cell 0 1 rfl rfl; have hfg6_1 := FX12.out.free 0 1 rfl; have hcg6_2 := FX12.out.cell 0 2 rfl rfl; have hfg6_2 := FX12.out.free 0 2 rfl; have hcg4_0 := FX12.out.cell 1 0 rfl rfl; have hfg4_0 := FX12.out.free 1 0 rfl; have hcg4_1 := FX12.out.cell 1 1 rfl rfl; have hfg4_1 := FX12.out.free 1 1 rfl; have hcg4_2 := FX12.out.cell 1 2 rfl rfl; have hfg4_2 := FX12.out.free 1 2 rfl; have hx := FX12.out.old HX.out))
  exact bodyPost_ret (results_ct rfl _ _ g4 24 #[.int .i64 0, .int .i64 0, .int .i64 0] (0, 0) _ rfl (FX12.out.blkOf 1 rfl) Try.underlying24 rfl (by kernel_rfl)) rfl ⟨rfl, FX12.out.below⟩
set_option maxHeartbeats 8000000 in
set_option maxRecDepth 100000 in
theorem impl_UnpackOp.u_two_true (A0 : Option Addr) (c0 : Nat) (l0 : List Int) (a1 : Int) (w : World) (hr0 : Kd.C (Kd.int .u8) w A0 l0.length l0) (hc0 : l0.length ≤ c0) (h0 : 0 ≤ a1) (h1 : a1 < (l0.length : Int)) (hkd : decide (1 ≤ wrap64 (Int.tdiv (wrap64 (rd l0 a1)) 5) ∧ wrap64 (Int.tdiv (wrap64 (rd l0 a1)) 5) ≤ 3) = true) (h2 : a1 + 1 < (l0.length : Int)) (hok : opB (wrap64 (Int.tdiv (wrap64 (rd l0 a1)) 5)) (Int.tmod (wrap64 (rd l0 a1)) 5) (wrap64 (rd l0 (a1 + 1))) = true) :
    Calls Try.prog 12 #[.slice A0 l0.length c0, .int .i64 a1] w fun e w' => e = .returned (.tuple #[.agg #[.int .i64 (wrap64 (Int.tdiv (wrap64 (rd l0 a1)) 5)), .int .i64 (Int.tmod (wrap64 (rd l0 a1)) 5), .int .i64 (wrap64 (rd l0 (a1 + 1)))], .int .i64 (a1 + 1 + 1)]) ∧ Below w.heap.size w w' := by
  have hu24 := Try.underlying24
  have hl := Kd.C_max hr0
  have FX := Aside0.mk (YtimlccgpeoaigaaX.Fx.start w)
  obtain ⟨ad, e0, hx⟩ := Kd.at_int hr0 a1 h0 h1
  obtain ⟨ad', e1, hy⟩ := Kd.at_int hr0 (a1 + 1) (by omega) h2
  obtain rfl : ad = ad' := by rw [e0] at e1; injection e1
  subst e0
  have HX := Aside0.mk hx
  clear hx
  have HY := Aside0.mk hy
  clear hy
  have q3 : (a1 + 1 == (l0.length : Int)) = false := beq_eq_false_iff_ne.mpr (by omega)
  go_enter Try.func12, Try.ntmps12
  go_wp2_with (first | ((with_reducible refine gate_dst (N := 4) rfl ?_); refine box_event ?hg (N := 4) ?hd (cs := #[.int .i64 0, .int .i64 0, .int .i64 0]) (t := 24) ?hr ?_; (case hd => rfl); (case hg => rfl); (case hr => first | (go_simp; done) | (go_simp; rfl)); intro g4 e3 w2 k4 b5; have FX1 := Aside0.mk (FX.out.alloc e3 k4 b5); clear e3 k4 b5; clear FX; have hcg4_0 := FX1.out.cell 0 0 rfl rfl; have hfg4_0 := FX1.out.free 0 0 rfl; have hcg4_1 := FX1.out.cell 0 1 rfl rfl; have hfg4_1 := FX1.out.free 0 1 rfl; have hcg4_2 := FX1.out.cell 0 2 rfl rfl; have hfg4_2 := FX1.out.free 0 2 rfl; have hx := FX1.out.old HX.out; have hy := FX1.out.old HY.out) | (go_at_call 38; (with_reducible refine (impl_within.calls _ _ _ true _ (by rw [within_tells]; exact congrArg some (by first | exact decide_eq_true (by omega) | exact decide_eq_false (by omega)))).mono ?_); rintro e w7 ⟨rfl, b8⟩; have FX6 := Aside0.mk (FX1.out.call b8.below); clear b8; clear FX1; clear hcg4_0 hfg4_0 hcg4_1 hfg4_1 hcg4_2 hfg4_2 hx hy; have hcg4_0 := FX6.out.cell 0 0 rfl rfl; have hfg4_0 := FX6.out.free 0 0 rfl; have hcg4_1 := FX6.out.cell 0 1 rfl rfl; have hfg4_1 := FX6.out.free 0 1 rfl; have hcg4_2 := FX6.out.cell 0 2 rfl rfl; have hfg4_2 := FX6.out.free 0 2 rfl; have hx := FX6.out.old HX.out; have hy := FX6.out.old HY.out; have hx2 := fun o => pw_cell_below (below_alloc (Below.refl w7.heap.size w7) o) hx))
  go_region
  clear hx2
  clear hcg4_0 hfg4_0 hcg4_1 hfg4_1 hcg4_2 hfg4_2 hx hy
  refine YtimlccgpeoaigaaV.gen_then (p := fun W' => ∃ g6, YtimlccgpeoaigaaX.Fx w W' [YtimlccgpeoaigaaX.blk g6 24 #[.int .i64 (wrap64 (Int.tdiv (wrap64 (rd l0 a1)) 5)), .int .i64 (Int.tmod (wrap64 (rd l0 a1)) 5), .int .i64 0], YtimlccgpeoaigaaX.blk g4 24 #[.int .i64 0, .int .i64 0, .int .i64 0]] ∧ g6 = w7.heap.size) ⟨_, (FX6.out.alloc rfl (blk_new _ _) (below_alloc (Below.refl _ _) _)).drew, rfl⟩ ?_
  rintro w6 ⟨g6, fx6, e6⟩
  rw [← e6]
  have FXR := Aside0.mk fx6
  clear fx6 e6 FX6
  have hcg6_0 := FXR.out.cell 0 0 rfl rfl
  have hfg6_0 := FXR.out.free 0 0 rfl
  have hcg6_1 := FXR.out.cell 0 1 rfl rfl
  have hfg6_1 := FXR.out.free 0 1 rfl
  have hcg6_2 := FXR.out.cell 0 2 rfl rfl
  have hfg6_2 := FXR.out.free 0 2 rfl
  have hcg4_0 := FXR.out.cell 1 0 rfl rfl
  have hfg4_0 := FXR.out.free 1 0 rfl
  have hcg4_1 := FXR.out.cell 1 1 rfl rfl
  have hfg4_1 := FXR.out.free 1 1 rfl
  have hcg4_2 := FXR.out.cell 1 2 rfl rfl
  have hfg4_2 := FXR.out.free 1 2 rfl
  have hx := FXR.out.old HX.out
  have hy := FXR.out.old HY.out
  go_wp2_with (first | (go_at_call 39; (with_reducible refine (impl_hasX.calls _ true _ (by rw [implHasX_tells]; exact congrArg some hkd)).mono ?_); rintro e w10 ⟨rfl, b11⟩; have FX9 := Aside0.mk (FXR.out.call b11.below); clear b11; clear FXR; clear hcg6_0 hfg6_0 hcg6_1 hfg6_1 hcg6_2 hfg6_2 hcg4_0 hfg4_0 hcg4_1 hfg4_1 hcg4_2 hfg4_2 hx hy; have hcg6_0 := FX9.out.cell 0 0 rfl rfl; have hfg6_0 := FX9.out.free 0 0 rfl; have hcg6_1 := FX9.out.cell 0 1 rfl rfl; have hfg6_1 := FX9.out.free 0 1 rfl; have hcg6_2 := FX9.out.cell 0 2 rfl rfl; have hfg6_2 := FX9.out.free 0 2 rfl; have hcg4_0 := FX9.out.cell 1 0 rfl rfl; have hfg4_0 := FX9.out.free 1 0 rfl; have hcg4_1 := FX9.out.cell 1 1 rfl rfl; have hfg4_1 := FX9.out.free 1 1 rfl; have hcg4_2 := FX9.out.cell 1 2 rfl rfl; have hfg4_2 := FX9.out.free 1 2 rfl; have hx := FX9.out.old HX.out; have hy := FX9.out.old HY.out) | ((with_reducible refine gate_store (t := 3) (p := 45) rfl ?_); refine store_event (t := 3) (p := 45) (v := ?vo_w13) (w1 := (w10.setCell ⟨g6, 2, none⟩ (.int .i64 (wrap64 (rd l0 (a1 + 1)))))) ?hg ?ho ?hn ?hr ?_; (case ho => rfl); (case hg => rfl); (case hn => rfl); (case hr => first | (go_simp; done) | (go_simp; rfl)); intro w13 e14; have FX12 : Aside0 (YtimlccgpeoaigaaX.Fx w w13 [YtimlccgpeoaigaaX.blk g6 24 #[.int .i64 (wrap64 (Int.tdiv (wrap64 (rd l0 a1)) 5)), .int .i64 (Int.tmod (wrap64 (rd l0 a1)) 5), .int .i64 (wrap64 (rd l0 (a1 + 1)))], YtimlccgpeoaigaaX.blk g4 24 #[.int .i64 0, .int .i64 0, .int .i64 0]]) := ⟨by rw [e14]; exact (FX9.out.store 0 rfl 2 (.int .i64 (wrap64 (rd l0 (a1 + 1)))) #[.int .i64 (wrap64 (Int.tdiv (wrap64 (rd l0 a1)) 5)), .int .i64 (Int.tmod (wrap64 (rd l0 a1)) 5), .int .i64 (wrap64 (rd l0 (a1 + 1)))] rfl)⟩; clear e14; clear FX9; clear hcg6_0 hfg6_0 hcg6_1 hfg6_1 hcg6_2 hfg6_2 hcg4_0 hfg4_0 hcg4_1 hfg4_1 hcg4_2 hfg4_2 hx hy; have hcg6_0 := FX12.out.cell 0 0 rfl rfl; have hfg6_0 := FX12.out.free 0 0 rfl; have hcg6_1 := FX12.out.cell 0 1 rfl rfl; have hfg6_1 := FX12.out.free 0 1 rfl; have hcg6_2 := FX12.out.cell 0 2 rfl rfl; have hfg6_2 := FX12.out.free 0 2 rfl; have hcg4_0 := FX12.out.cell 1 0 rfl rfl; have hfg4_0 := FX12.out.free 1 0 rfl; have hcg4_1 := FX12.out.cell 1 1 rfl rfl; have hfg4_1 := FX12.out.free 1 1 rfl; have hcg4_2 := FX12.out.cell 1 2 rfl rfl; have hfg4_2 := FX12.out.free 1 2 rfl; have hx := FX12.out.old HX.out; have hy := FX12.out.old HY.out) | (go_at_call 40; (with_reducible refine (impl_OpOk.calls 1 (wrap64 (Int.tdiv (wrap64 (rd l0 a1)) 5)) (Int.tmod (wrap64 (rd l0 a1)) 5) (wrap64 (rd l0 (a1 + 1))) true _ (by rw [implOpOk_tells 1 (by omega)]; exact congrArg some hok)).mono ?_); rintro e w16 ⟨rfl, b17⟩; have FX15 := Aside0.mk (FX12.out.call b17); clear b17; clear FX12; clear hcg6_0 hfg6_0 hcg6_1 hfg6_1 hcg6_2 hfg6_2 hcg4_0 hfg4_0 hcg4_1 hfg4_1 hcg4_2 hfg4_2 hx hy; have hcg6_0 := FX15.out.cell 0 0 rfl rfl; have hfg6_0 := FX15.out.free 0 0 rfl; have hcg6_1 := FX15.out.cell 0 1 rfl rfl; have hfg6_1 := FX15.out.free 0 1 rfl; have hcg6_2 := FX15.out.cell 0 2 rfl rfl; have hfg6_2 := FX15.out.free 0 2 rfl; have hcg4_0 := FX15.out.cell 1 0 rfl rfl; have hfg4_0 := FX15.out.free 1 0 rfl; have hcg4_1 := FX15.out.cell 1 1 rfl rfl; have hfg4_1 := FX15.out.free 1 1 rfl; have hcg4_2 := FX15.out.cell 1 2 rfl rfl; have hfg4_2 := FX15.out.free 1 2 rfl; have hx := FX15.out.old HX.out; have hy := FX15.out.old HY.out) | ((with_reducible refine gate_store (t := 24) (p := 4) rfl ?_); refine store_event (t := 24) (p := 4) (v := ?vo_w19) (w1 := (((w16.setCell ⟨g4, 0, none⟩ (.int .i64 (wrap64 (Int.tdiv (wrap64 (rd l0 a1)) 5)))).setCell ⟨g4, 1, none⟩ (.int .i64 (Int.tmod (wrap64 (rd l0 a1)) 5))).setCell ⟨g4, 2, none⟩ (.int .i64 (wrap64 (rd l0 (a1 + 1)))))) ?hg ?ho ?hn ?hr ?_; (case ho => rfl); (case hg => rfl); (case hn => rfl); (case hr => first | (go_simp; done) | (go_simp; rfl)); intro w19 e20; have FX18 : Aside0 (YtimlccgpeoaigaaX.Fx w w19 [YtimlccgpeoaigaaX.blk g6 24 #[.int .i64 (wrap64 (Int.tdiv (wrap64 (rd l0 a1)) 5)), .int .i64 (Int.tmod (wrap64 (rd l0 a1)) 5), .int .i64 (wrap64 (rd l0 (a1 + 1)))], YtimlccgpeoaigaaX.blk g4 24 #[.int .i64 (wrap64 (Int.tdiv (wrap64 (rd l0 a1)) 5)), .int .i64 (Int.tmod (wrap64 (rd l0 a1)) 5), .int .i64 (wrap64 (rd l0 (a1 + 1)))]]) := ⟨by rw [e20]; exact (((FX15.out.store 1 rfl 0 (.int .i64 (wrap64 (Int.tdiv (wrap64 (rd l0 a1)) 5))) #[.int .i64 (wrap64 (Int.tdiv (wrap64 (rd l0 a1)) 5)), .int .i64 0, .int .i64 0] rfl).store 1 rfl 1 (.int .i64 (Int.tmod (wrap64 (rd l0 a1)) 5)) #[.int .i64 (wrap64 (Int.tdiv (wrap64 (rd l0 a1)) 5)), .int .i64 (Int.tmod (wrap64 (rd l0 a1)) 5), .int .i64 0] rfl).store 1 rfl 2 (.int .i64 (wrap64 (rd l0 (a1 + 1)))) #[.int .i64 (wrap64 (Int.tdiv (wrap64 (rd l0 a1)) 5)), .int .i64 (Int.tmod (wrap64 (rd l0 a1)) 5), .int .i64 (wrap64 (rd l0 (a1 + 1)))] rfl)⟩; clear e20; clear FX15; clear hcg6_0 hfg6_0 hcg6_1 hfg6_1 hcg6_2 hfg6_2 hcg4_0 hfg4_0 hcg4_1 hfg4_1 hcg4_2 hfg4_2 hx hy; have hcg6_0 := FX18.out.cell 0 0 rfl rfl; have hfg6_0 := FX18.out.free 0 0 rfl; have hcg6_1 := FX18.out.cell 0 1 rfl rfl; have hfg6_1 := FX18.out.free 0 1 rfl; have hcg6_2 := FX18.out.cell 0 2 rfl rfl; have hfg6_2 := FX18.out.free 0 2 rfl; have hcg4_0 := FX18.out.cell 1 0 rfl rfl; have hfg4_0 := FX18.out.free 1 0 rfl; have hcg4_1 := FX18.out.cell 1 1 rfl rfl; have hfg4_1 := FX18.out.free 1 1 rfl; have hcg4_2 := FX18.out.cell 1 2 rfl rfl; have hfg4_2 := FX18.out.free 1 2 rfl; have hx := FX18.out.old HX.out; have hy := FX18.out.old HY.out))
  exact bodyPost_ret (results_ct rfl _ _ g4 24 #[.int .i64 (wrap64 (Int.tdiv (wrap64 (rd l0 a1)) 5)), .int .i64 (Int.tmod (wrap64 (rd l0 a1)) 5), .int .i64 (wrap64 (rd l0 (a1 + 1)))] (0, 0) _ rfl (FX18.out.blkOf 1 rfl) Try.underlying24 rfl (by kernel_rfl)) rfl ⟨rfl, FX18.out.below⟩
set_option maxHeartbeats 8000000 in
set_option maxRecDepth 100000 in
theorem impl_UnpackOp.u_one_true (A0 : Option Addr) (c0 : Nat) (l0 : List Int) (a1 : Int) (w : World) (hr0 : Kd.C (Kd.int .u8) w A0 l0.length l0) (hc0 : l0.length ≤ c0) (h0 : 0 ≤ a1) (h1 : a1 < (l0.length : Int)) (hkd : decide (1 ≤ wrap64 (Int.tdiv (wrap64 (rd l0 a1)) 5) ∧ wrap64 (Int.tdiv (wrap64 (rd l0 a1)) 5) ≤ 3) = false) (hok : opB (wrap64 (Int.tdiv (wrap64 (rd l0 a1)) 5)) (Int.tmod (wrap64 (rd l0 a1)) 5) 0 = true) :
    Calls Try.prog 12 #[.slice A0 l0.length c0, .int .i64 a1] w fun e w' => e = .returned (.tuple #[.agg #[.int .i64 (wrap64 (Int.tdiv (wrap64 (rd l0 a1)) 5)), .int .i64 (Int.tmod (wrap64 (rd l0 a1)) 5), .int .i64 0], .int .i64 (a1 + 1)]) ∧ Below w.heap.size w w' := by
  have hu24 := Try.underlying24
  have hl := Kd.C_max hr0
  have FX := Aside0.mk (YtimlccgpeoaigaaX.Fx.start w)
  obtain ⟨ad, e0, hx⟩ := Kd.at_int hr0 a1 h0 h1
  subst e0
  have HX := Aside0.mk hx
  clear hx
  go_enter Try.func12, Try.ntmps12
  go_wp2_with (first | ((with_reducible refine gate_dst (N := 4) rfl ?_); refine box_event ?hg (N := 4) ?hd (cs := #[.int .i64 0, .int .i64 0, .int .i64 0]) (t := 24) ?hr ?_; (case hd => rfl); (case hg => rfl); (case hr => first | (go_simp; done) | (go_simp; rfl)); intro g4 e3 w2 k4 b5; have FX1 := Aside0.mk (FX.out.alloc e3 k4 b5); clear e3 k4 b5; clear FX; have hcg4_0 := FX1.out.cell 0 0 rfl rfl; have hfg4_0 := FX1.out.free 0 0 rfl; have hcg4_1 := FX1.out.cell 0 1 rfl rfl; have hfg4_1 := FX1.out.free 0 1 rfl; have hcg4_2 := FX1.out.cell 0 2 rfl rfl; have hfg4_2 := FX1.out.free 0 2 rfl; have hx := FX1.out.old HX.out) | (go_at_call 38; (with_reducible refine (impl_within.calls _ _ _ true _ (by rw [within_tells]; exact congrArg some (by first | exact decide_eq_true (by omega) | exact decide_eq_false (by omega)))).mono ?_); rintro e w7 ⟨rfl, b8⟩; have FX6 := Aside0.mk (FX1.out.call b8.below); clear b8; clear FX1; clear hcg4_0 hfg4_0 hcg4_1 hfg4_1 hcg4_2 hfg4_2 hx; have hcg4_0 := FX6.out.cell 0 0 rfl rfl; have hfg4_0 := FX6.out.free 0 0 rfl; have hcg4_1 := FX6.out.cell 0 1 rfl rfl; have hfg4_1 := FX6.out.free 0 1 rfl; have hcg4_2 := FX6.out.cell 0 2 rfl rfl; have hfg4_2 := FX6.out.free 0 2 rfl; have hx := FX6.out.old HX.out; have hx2 := fun o => pw_cell_below (below_alloc (Below.refl w7.heap.size w7) o) hx))
  go_region
  clear hx2
  clear hcg4_0 hfg4_0 hcg4_1 hfg4_1 hcg4_2 hfg4_2 hx
  refine YtimlccgpeoaigaaV.gen_then (p := fun W' => ∃ g6, YtimlccgpeoaigaaX.Fx w W' [YtimlccgpeoaigaaX.blk g6 24 #[.int .i64 (wrap64 (Int.tdiv (wrap64 (rd l0 a1)) 5)), .int .i64 (Int.tmod (wrap64 (rd l0 a1)) 5), .int .i64 0], YtimlccgpeoaigaaX.blk g4 24 #[.int .i64 0, .int .i64 0, .int .i64 0]] ∧ g6 = w7.heap.size) ⟨_, (FX6.out.alloc rfl (blk_new _ _) (below_alloc (Below.refl _ _) _)).drew, rfl⟩ ?_
  rintro w6 ⟨g6, fx6, e6⟩
  rw [← e6]
  have FXR := Aside0.mk fx6
  clear fx6 e6 FX6
  have hcg6_0 := FXR.out.cell 0 0 rfl rfl
  have hfg6_0 := FXR.out.free 0 0 rfl
  have hcg6_1 := FXR.out.cell 0 1 rfl rfl
  have hfg6_1 := FXR.out.free 0 1 rfl
  have hcg6_2 := FXR.out.cell 0 2 rfl rfl
  have hfg6_2 := FXR.out.free 0 2 rfl
  have hcg4_0 := FXR.out.cell 1 0 rfl rfl
  have hfg4_0 := FXR.out.free 1 0 rfl
  have hcg4_1 := FXR.out.cell 1 1 rfl rfl
  have hfg4_1 := FXR.out.free 1 1 rfl
  have hcg4_2 := FXR.out.cell 1 2 rfl rfl
  have hfg4_2 := FXR.out.free 1 2 rfl
  have hx := FXR.out.old HX.out
  go_wp2_with (first | (go_at_call 39; (with_reducible refine (impl_hasX.calls _ false _ (by rw [implHasX_tells]; exact congrArg some hkd)).mono ?_); rintro e w10 ⟨rfl, b11⟩; have FX9 := Aside0.mk (FXR.out.call b11.below); clear b11; clear FXR; clear hcg6_0 hfg6_0 hcg6_1 hfg6_1 hcg6_2 hfg6_2 hcg4_0 hfg4_0 hcg4_1 hfg4_1 hcg4_2 hfg4_2 hx; have hcg6_0 := FX9.out.cell 0 0 rfl rfl; have hfg6_0 := FX9.out.free 0 0 rfl; have hcg6_1 := FX9.out.cell 0 1 rfl rfl; have hfg6_1 := FX9.out.free 0 1 rfl; have hcg6_2 := FX9.out.cell 0 2 rfl rfl; have hfg6_2 := FX9.out.free 0 2 rfl; have hcg4_0 := FX9.out.cell 1 0 rfl rfl; have hfg4_0 := FX9.out.free 1 0 rfl; have hcg4_1 := FX9.out.cell 1 1 rfl rfl; have hfg4_1 := FX9.out.free 1 1 rfl; have hcg4_2 := FX9.out.cell 1 2 rfl rfl; have hfg4_2 := FX9.out.free 1 2 rfl; have hx := FX9.out.old HX.out) | (go_at_call 40; (with_reducible refine (impl_OpOk.calls 1 (wrap64 (Int.tdiv (wrap64 (rd l0 a1)) 5)) (Int.tmod (wrap64 (rd l0 a1)) 5) (0) true _ (by rw [implOpOk_tells 1 (by omega)]; exact congrArg some hok)).mono ?_); rintro e w13 ⟨rfl, b14⟩; have FX12 := Aside0.mk (FX9.out.call b14); clear b14; clear FX9; clear hcg6_0 hfg6_0 hcg6_1 hfg6_1 hcg6_2 hfg6_2 hcg4_0 hfg4_0 hcg4_1 hfg4_1 hcg4_2 hfg4_2 hx; have hcg6_0 := FX12.out.cell 0 0 rfl rfl; have hfg6_0 := FX12.out.free 0 0 rfl; have hcg6_1 := FX12.out.cell 0 1 rfl rfl; have hfg6_1 := FX12.out.free 0 1 rfl; have hcg6_2 := FX12.out.cell 0 2 rfl rfl; have hfg6_2 := FX12.out.free 0 2 rfl; have hcg4_0 := FX12.out.cell 1 0 rfl rfl; have hfg4_0 := FX12.out.free 1 0 rfl; have hcg4_1 := FX12.out.cell 1 1 rfl rfl; have hfg4_1 := FX12.out.free 1 1 rfl; have hcg4_2 := FX12.out.cell 1 2 rfl rfl; have hfg4_2 := FX12.out.free 1 2 rfl; have hx := FX12.out.old HX.out) | ((with_reducible refine gate_store (t := 24) (p := 4) rfl ?_); refine store_event (t := 24) (p := 4) (v := ?vo_w16) (w1 := (((w13.setCell ⟨g4, 0, none⟩ (.int .i64 (wrap64 (Int.tdiv (wrap64 (rd l0 a1)) 5)))).setCell ⟨g4, 1, none⟩ (.int .i64 (Int.tmod (wrap64 (rd l0 a1)) 5))).setCell ⟨g4, 2, none⟩ (.int .i64 0))) ?hg ?ho ?hn ?hr ?_; (case ho => rfl); (case hg => rfl); (case hn => rfl); (case hr => first | (go_simp; done) | (go_simp; rfl)); intro w16 e17; have FX15 : Aside0 (YtimlccgpeoaigaaX.Fx w w16 [YtimlccgpeoaigaaX.blk g6 24 #[.int .i64 (wrap64 (Int.tdiv (wrap64 (rd l0 a1)) 5)), .int .i64 (Int.tmod (wrap64 (rd l0 a1)) 5), .int .i64 0], YtimlccgpeoaigaaX.blk g4 24 #[.int .i64 (wrap64 (Int.tdiv (wrap64 (rd l0 a1)) 5)), .int .i64 (Int.tmod (wrap64 (rd l0 a1)) 5), .int .i64 0]]) := ⟨by rw [e17]; exact (((FX12.out.store 1 rfl 0 (.int .i64 (wrap64 (Int.tdiv (wrap64 (rd l0 a1)) 5))) #[.int .i64 (wrap64 (Int.tdiv (wrap64 (rd l0 a1)) 5)), .int .i64 0, .int .i64 0] rfl).store 1 rfl 1 (.int .i64 (Int.tmod (wrap64 (rd l0 a1)) 5)) #[.int .i64 (wrap64 (Int.tdiv (wrap64 (rd l0 a1)) 5)), .int .i64 (Int.tmod (wrap64 (rd l0 a1)) 5), .int .i64 0] rfl).store 1 rfl 2 (.int .i64 0) #[.int .i64 (wrap64 (Int.tdiv (wrap64 (rd l0 a1)) 5)), .int .i64 (Int.tmod (wrap64 (rd l0 a1)) 5), .int .i64 0] rfl)⟩; clear e17; clear FX12; clear hcg6_0 hfg6_0 hcg6_1 hfg6_1 hcg6_2 hfg6_2 hcg4_0 hfg4_0 hcg4_1 hfg4_1 hcg4_2 hfg4_2 hx; have hcg6_0 := FX15.out.cell 0 0 rfl rfl; have hfg6_0 := FX15.out.free 0 0 rfl; have hcg6_1 := FX15.out.cell 0 1 rfl rfl; have hfg6_1 := FX15.out.free 0 1 rfl; have hcg6_2 := FX15.out.cell 0 2 rfl rfl; have hfg6_2 := FX15.out.free 0 2 rfl; have hcg4_0 := FX15.out.cell 1 0 rfl rfl; have hfg4_0 := FX15.out.free 1 0 rfl; have hcg4_1 := FX15.out.cell 1 1 rfl rfl; have hfg4_1 := FX15.out.free 1 1 rfl; have hcg4_2 := FX15.out.cell 1 2 rfl rfl; have hfg4_2 := FX15.out.free 1 2 rfl; have hx := FX15.out.old HX.out))
  exact bodyPost_ret (results_ct rfl _ _ g4 24 #[.int .i64 (wrap64 (Int.tdiv (wrap64 (rd l0 a1)) 5)), .int .i64 (Int.tmod (wrap64 (rd l0 a1)) 5), .int .i64 0] (0, 0) _ rfl (FX15.out.blkOf 1 rfl) Try.underlying24 rfl (by kernel_rfl)) rfl ⟨rfl, FX15.out.below⟩
set_option maxHeartbeats 8000000 in
set_option maxRecDepth 100000 in
theorem impl_UnpackOp.u_two_false (A0 : Option Addr) (c0 : Nat) (l0 : List Int) (a1 : Int) (w : World) (hr0 : Kd.C (Kd.int .u8) w A0 l0.length l0) (hc0 : l0.length ≤ c0) (h0 : 0 ≤ a1) (h1 : a1 < (l0.length : Int)) (hkd : decide (1 ≤ wrap64 (Int.tdiv (wrap64 (rd l0 a1)) 5) ∧ wrap64 (Int.tdiv (wrap64 (rd l0 a1)) 5) ≤ 3) = true) (h2 : a1 + 1 < (l0.length : Int)) (hok : opB (wrap64 (Int.tdiv (wrap64 (rd l0 a1)) 5)) (Int.tmod (wrap64 (rd l0 a1)) 5) (wrap64 (rd l0 (a1 + 1))) = false) :
    Calls Try.prog 12 #[.slice A0 l0.length c0, .int .i64 a1] w fun e w' => e = .returned (.tuple #[.agg #[.int .i64 0, .int .i64 0, .int .i64 0], .int .i64 (-1)]) ∧ Below w.heap.size w w' := by
  have hu24 := Try.underlying24
  have hl := Kd.C_max hr0
  have FX := Aside0.mk (YtimlccgpeoaigaaX.Fx.start w)
  obtain ⟨ad, e0, hx⟩ := Kd.at_int hr0 a1 h0 h1
  obtain ⟨ad', e1, hy⟩ := Kd.at_int hr0 (a1 + 1) (by omega) h2
  obtain rfl : ad = ad' := by rw [e0] at e1; injection e1
  subst e0
  have HX := Aside0.mk hx
  clear hx
  have HY := Aside0.mk hy
  clear hy
  have q3 : (a1 + 1 == (l0.length : Int)) = false := beq_eq_false_iff_ne.mpr (by omega)
  go_enter Try.func12, Try.ntmps12
  go_wp2_with (first | ((with_reducible refine gate_dst (N := 4) rfl ?_); refine box_event ?hg (N := 4) ?hd (cs := #[.int .i64 0, .int .i64 0, .int .i64 0]) (t := 24) ?hr ?_; (case hd => rfl); (case hg => rfl); (case hr => first | (go_simp; done) | (go_simp; rfl)); intro g4 e3 w2 k4 b5; have FX1 := Aside0.mk (FX.out.alloc e3 k4 b5); clear e3 k4 b5; clear FX; have hcg4_0 := FX1.out.cell 0 0 rfl rfl; have hfg4_0 := FX1.out.free 0 0 rfl; have hcg4_1 := FX1.out.cell 0 1 rfl rfl; have hfg4_1 := FX1.out.free 0 1 rfl; have hcg4_2 := FX1.out.cell 0 2 rfl rfl; have hfg4_2 := FX1.out.free 0 2 rfl; have hx := FX1.out.old HX.out; have hy := FX1.out.old HY.out) | (go_at_call 38; (with_reducible refine (impl_within.calls _ _ _ true _ (by rw [within_tells]; exact congrArg some (by first | exact decide_eq_true (by omega) | exact decide_eq_false (by omega)))).mono ?_); rintro e w7 ⟨rfl, b8⟩; have FX6 := Aside0.mk (FX1.out.call b8.below); clear b8; clear FX1; clear hcg4_0 hfg4_0 hcg4_1 hfg4_1 hcg4_2 hfg4_2 hx hy; have hcg4_0 := FX6.out.cell 0 0 rfl rfl; have hfg4_0 := FX6.out.free 0 0 rfl; have hcg4_1 := FX6.out.cell 0 1 rfl rfl; have hfg4_1 := FX6.out.free 0 1 rfl; have hcg4_2 := FX6.out.cell 0 2 rfl rfl; have hfg4_2 := FX6.out.free 0 2 rfl; have hx := FX6.out.old HX.out; have hy := FX6.out.old HY.out; have hx2 := fun o => pw_cell_below (below_alloc (Below.refl w7.heap.size w7) o) hx))
  go_region
  clear hx2
  clear hcg4_0 hfg4_0 hcg4_1 hfg4_1 hcg4_2 hfg4_2 hx hy
  refine YtimlccgpeoaigaaV.gen_then (p := fun W' => ∃ g6, YtimlccgpeoaigaaX.Fx w W' [YtimlccgpeoaigaaX.blk g6 24 #[.int .i64 (wrap64 (Int.tdiv (wrap64 (rd l0 a1)) 5)), .int .i64 (Int.tmod (wrap64 (rd l0 a1)) 5), .int .i64 0], YtimlccgpeoaigaaX.blk g4 24 #[.int .i64 0, .int .i64 0, .int .i64 0]] ∧ g6 = w7.heap.size) ⟨_, (FX6.out.alloc rfl (blk_new _ _) (below_alloc (Below.refl _ _) _)).drew, rfl⟩ ?_
  rintro w6 ⟨g6, fx6, e6⟩
  rw [← e6]
  have FXR := Aside0.mk fx6
  clear fx6 e6 FX6
  have hcg6_0 := FXR.out.cell 0 0 rfl rfl
  have hfg6_0 := FXR.out.free 0 0 rfl
  have hcg6_1 := FXR.out.cell 0 1 rfl rfl
  have hfg6_1 := FXR.out.free 0 1 rfl
  have hcg6_2 := FXR.out.cell 0 2 rfl rfl
  have hfg6_2 := FXR.out.free 0 2 rfl
  have hcg4_0 := FXR.out.cell 1 0 rfl rfl
  have hfg4_0 := FXR.out.free 1 0 rfl
  have hcg4_1 := FXR.out.cell 1 1 rfl rfl
  have hfg4_1 := FXR.out.free 1 1 rfl
  have hcg4_2 := FXR.out.cell 1 2 rfl rfl
  have hfg4_2 := FXR.out.free 1 2 rfl
  have hx := FXR.out.old HX.out
  have hy := FXR.out.old HY.out
  go_wp2_with (first | (go_at_call 39; (with_reducible refine (impl_hasX.calls _ true _ (by rw [implHasX_tells]; exact congrArg some hkd)).mono ?_); rintro e w10 ⟨rfl, b11⟩; have FX9 := Aside0.mk (FXR.out.call b11.below); clear b11; clear FXR; clear hcg6_0 hfg6_0 hcg6_1 hfg6_1 hcg6_2 hfg6_2 hcg4_0 hfg4_0 hcg4_1 hfg4_1 hcg4_2 hfg4_2 hx hy; have hcg6_0 := FX9.out.cell 0 0 rfl rfl; have hfg6_0 := FX9.out.free 0 0 rfl; have hcg6_1 := FX9.out.cell 0 1 rfl rfl; have hfg6_1 := FX9.out.free 0 1 rfl; have hcg6_2 := FX9.out.cell 0 2 rfl rfl; have hfg6_2 := FX9.out.free 0 2 rfl; have hcg4_0 := FX9.out.cell 1 0 rfl rfl; have hfg4_0 := FX9.out.free 1 0 rfl; have hcg4_1 := FX9.out.cell 1 1 rfl rfl; have hfg4_1 := FX9.out.free 1 1 rfl; have hcg4_2 := FX9.out.cell 1 2 rfl rfl; have hfg4_2 := FX9.out.free 1 2 rfl; have hx := FX9.out.old HX.out; have hy := FX9.out.old HY.out) | ((with_reducible refine gate_store (t := 3) (p := 45) rfl ?_); refine store_event (t := 3) (p := 45) (v := ?vo_w13) (w1 := (w10.setCell ⟨g6, 2, none⟩ (.int .i64 (wrap64 (rd l0 (a1 + 1)))))) ?hg ?ho ?hn ?hr ?_; (case ho => rfl); (case hg => rfl); (case hn => rfl); (case hr => first | (go_simp; done) | (go_simp; rfl)); intro w13 e14; have FX12 : Aside0 (YtimlccgpeoaigaaX.Fx w w13 [YtimlccgpeoaigaaX.blk g6 24 #[.int .i64 (wrap64 (Int.tdiv (wrap64 (rd l0 a1)) 5)), .int .i64 (Int.tmod (wrap64 (rd l0 a1)) 5), .int .i64 (wrap64 (rd l0 (a1 + 1)))], YtimlccgpeoaigaaX.blk g4 24 #[.int .i64 0, .int .i64 0, .int .i64 0]]) := ⟨by rw [e14]; exact (FX9.out.store 0 rfl 2 (.int .i64 (wrap64 (rd l0 (a1 + 1)))) #[.int .i64 (wrap64 (Int.tdiv (wrap64 (rd l0 a1)) 5)), .int .i64 (Int.tmod (wrap64 (rd l0 a1)) 5), .int .i64 (wrap64 (rd l0 (a1 + 1)))] rfl)⟩; clear e14; clear FX9; clear hcg6_0 hfg6_0 hcg6_1 hfg6_1 hcg6_2 hfg6_2 hcg4_0 hfg4_0 hcg4_1 hfg4_1 hcg4_2 hfg4_2 hx hy; have hcg6_0 := FX12.out.cell 0 0 rfl rfl; have hfg6_0 := FX12.out.free 0 0 rfl; have hcg6_1 := FX12.out.cell 0 1 rfl rfl; have hfg6_1 := FX12.out.free 0 1 rfl; have hcg6_2 := FX12.out.cell 0 2 rfl rfl; have hfg6_2 := FX12.out.free 0 2 rfl; have hcg4_0 := FX12.out.cell 1 0 rfl rfl; have hfg4_0 := FX12.out.free 1 0 rfl; have hcg4_1 := FX12.out.cell 1 1 rfl rfl; have hfg4_1 := FX12.out.free 1 1 rfl; have hcg4_2 := FX12.out.cell 1 2 rfl rfl; have hfg4_2 := FX12.out.free 1 2 rfl; have hx := FX12.out.old HX.out; have hy := FX12.out.old HY.out) | (go_at_call 40; (with_reducible refine (impl_OpOk.calls 1 (wrap64 (Int.tdiv (wrap64 (rd l0 a1)) 5)) (Int.tmod (wrap64 (rd l0 a1)) 5) (wrap64 (rd l0 (a1 + 1))) false _ (by rw [implOpOk_tells 1 (by omega)]; exact congrArg some hok)).mono ?_); rintro e w16 ⟨rfl, b17⟩; have FX15 := Aside0.mk (FX12.out.call b17); clear b17; clear FX12; clear hcg6_0 hfg6_0 hcg6_1 hfg6_1 hcg6_2 hfg6_2 hcg4_0 hfg4_0 hcg4_1 hfg4_1 hcg4_2 hfg4_2 hx hy; have hcg6_0 := FX15.out.cell 0 0 rfl rfl; have hfg6_0 := FX15.out.free 0 0 rfl; have hcg6_1 := FX15.out.cell 0 1 rfl rfl; have hfg6_1 := FX15.out.free 0 1 rfl; have hcg6_2 := FX15.out.cell 0 2 rfl rfl; have hfg6_2 := FX15.out.free 0 2 rfl; have hcg4_0 := FX15.out.cell 1 0 rfl rfl; have hfg4_0 := FX15.out.free 1 0 rfl; have hcg4_1 := FX15.out.cell 1 1 rfl rfl; have hfg4_1 := FX15.out.free 1 1 rfl; have hcg4_2 := FX15.out.cell 1 2 rfl rfl; have hfg4_2 := FX15.out.free 1 2 rfl; have hx := FX15.out.old HX.out; have hy := FX15.out.old HY.out) | ((with_reducible refine gate_store (t := 24) (p := 4) rfl ?_); refine store_event (t := 24) (p := 4) (v := ?vo_w19) (w1 := (((w16.setCell ⟨g4, 0, none⟩ (.int .i64 0)).setCell ⟨g4, 1, none⟩ (.int .i64 0)).setCell ⟨g4, 2, none⟩ (.int .i64 0))) ?hg ?ho ?hn ?hr ?_; (case ho => rfl); (case hg => rfl); (case hn => rfl); (case hr => first | (go_simp; done) | (go_simp; rfl)); intro w19 e20; have FX18 : Aside0 (YtimlccgpeoaigaaX.Fx w w19 [YtimlccgpeoaigaaX.blk g6 24 #[.int .i64 (wrap64 (Int.tdiv (wrap64 (rd l0 a1)) 5)), .int .i64 (Int.tmod (wrap64 (rd l0 a1)) 5), .int .i64 (wrap64 (rd l0 (a1 + 1)))], YtimlccgpeoaigaaX.blk g4 24 #[.int .i64 0, .int .i64 0, .int .i64 0]]) := ⟨by rw [e20]; exact (((FX15.out.store 1 rfl 0 (.int .i64 0) #[.int .i64 0, .int .i64 0, .int .i64 0] rfl).store 1 rfl 1 (.int .i64 0) #[.int .i64 0, .int .i64 0, .int .i64 0] rfl).store 1 rfl 2 (.int .i64 0) #[.int .i64 0, .int .i64 0, .int .i64 0] rfl)⟩; clear e20; clear FX15; clear hcg6_0 hfg6_0 hcg6_1 hfg6_1 hcg6_2 hfg6_2 hcg4_0 hfg4_0 hcg4_1 hfg4_1 hcg4_2 hfg4_2 hx hy; have hcg6_0 := FX18.out.cell 0 0 rfl rfl; have hfg6_0 := FX18.out.free 0 0 rfl; have hcg6_1 := FX18.out.cell 0 1 rfl rfl; have hfg6_1 := FX18.out.free 0 1 rfl; have hcg6_2 := FX18.out.cell 0 2 rfl rfl; have hfg6_2 := FX18.out.free 0 2 rfl; have hcg4_0 := FX18.out.cell 1 0 rfl rfl; have hfg4_0 := FX18.out.free 1 0 rfl; have hcg4_1 := FX18.out.cell 1 1 rfl rfl; have hfg4_1 := FX18.out.free 1 1 rfl; have hcg4_2 := FX18.out.cell 1 2 rfl rfl; have hfg4_2 := FX18.out.free 1 2 rfl; have hx := FX18.out.old HX.out; have hy := FX18.out.old HY.out))
  exact bodyPost_ret (results_ct rfl _ _ g4 24 #[.int .i64 0, .int .i64 0, .int .i64 0] (0, 0) _ rfl (FX18.out.blkOf 1 rfl) Try.underlying24 rfl (by kernel_rfl)) rfl ⟨rfl, FX18.out.below⟩
set_option maxHeartbeats 8000000 in
set_option maxRecDepth 100000 in
theorem impl_UnpackOp.u_one_false (A0 : Option Addr) (c0 : Nat) (l0 : List Int) (a1 : Int) (w : World) (hr0 : Kd.C (Kd.int .u8) w A0 l0.length l0) (hc0 : l0.length ≤ c0) (h0 : 0 ≤ a1) (h1 : a1 < (l0.length : Int)) (hkd : decide (1 ≤ wrap64 (Int.tdiv (wrap64 (rd l0 a1)) 5) ∧ wrap64 (Int.tdiv (wrap64 (rd l0 a1)) 5) ≤ 3) = false) (hok : opB (wrap64 (Int.tdiv (wrap64 (rd l0 a1)) 5)) (Int.tmod (wrap64 (rd l0 a1)) 5) 0 = false) :
    Calls Try.prog 12 #[.slice A0 l0.length c0, .int .i64 a1] w fun e w' => e = .returned (.tuple #[.agg #[.int .i64 0, .int .i64 0, .int .i64 0], .int .i64 (-1)]) ∧ Below w.heap.size w w' := by
  have hu24 := Try.underlying24
  have hl := Kd.C_max hr0
  have FX := Aside0.mk (YtimlccgpeoaigaaX.Fx.start w)
  obtain ⟨ad, e0, hx⟩ := Kd.at_int hr0 a1 h0 h1
  subst e0
  have HX := Aside0.mk hx
  clear hx
  go_enter Try.func12, Try.ntmps12
  go_wp2_with (first | ((with_reducible refine gate_dst (N := 4) rfl ?_); refine box_event ?hg (N := 4) ?hd (cs := #[.int .i64 0, .int .i64 0, .int .i64 0]) (t := 24) ?hr ?_; (case hd => rfl); (case hg => rfl); (case hr => first | (go_simp; done) | (go_simp; rfl)); intro g4 e3 w2 k4 b5; have FX1 := Aside0.mk (FX.out.alloc e3 k4 b5); clear e3 k4 b5; clear FX; have hcg4_0 := FX1.out.cell 0 0 rfl rfl; have hfg4_0 := FX1.out.free 0 0 rfl; have hcg4_1 := FX1.out.cell 0 1 rfl rfl; have hfg4_1 := FX1.out.free 0 1 rfl; have hcg4_2 := FX1.out.cell 0 2 rfl rfl; have hfg4_2 := FX1.out.free 0 2 rfl; have hx := FX1.out.old HX.out) | (go_at_call 38; (with_reducible refine (impl_within.calls _ _ _ true _ (by rw [within_tells]; exact congrArg some (by first | exact decide_eq_true (by omega) | exact decide_eq_false (by omega)))).mono ?_); rintro e w7 ⟨rfl, b8⟩; have FX6 := Aside0.mk (FX1.out.call b8.below); clear b8; clear FX1; clear hcg4_0 hfg4_0 hcg4_1 hfg4_1 hcg4_2 hfg4_2 hx; have hcg4_0 := FX6.out.cell 0 0 rfl rfl; have hfg4_0 := FX6.out.free 0 0 rfl; have hcg4_1 := FX6.out.cell 0 1 rfl rfl; have hfg4_1 := FX6.out.free 0 1 rfl; have hcg4_2 := FX6.out.cell 0 2 rfl rfl; have hfg4_2 := FX6.out.free 0 2 rfl; have hx := FX6.out.old HX.out; have hx2 := fun o => pw_cell_below (below_alloc (Below.refl w7.heap.size w7) o) hx))
  go_region
  clear hx2
  clear hcg4_0 hfg4_0 hcg4_1 hfg4_1 hcg4_2 hfg4_2 hx
  refine YtimlccgpeoaigaaV.gen_then (p := fun W' => ∃ g6, YtimlccgpeoaigaaX.Fx w W' [YtimlccgpeoaigaaX.blk g6 24 #[.int .i64 (wrap64 (Int.tdiv (wrap64 (rd l0 a1)) 5)), .int .i64 (Int.tmod (wrap64 (rd l0 a1)) 5), .int .i64 0], YtimlccgpeoaigaaX.blk g4 24 #[.int .i64 0, .int .i64 0, .int .i64 0]] ∧ g6 = w7.heap.size) ⟨_, (FX6.out.alloc rfl (blk_new _ _) (below_alloc (Below.refl _ _) _)).drew, rfl⟩ ?_
  rintro w6 ⟨g6, fx6, e6⟩
  rw [← e6]
  have FXR := Aside0.mk fx6
  clear fx6 e6 FX6
  have hcg6_0 := FXR.out.cell 0 0 rfl rfl
  have hfg6_0 := FXR.out.free 0 0 rfl
  have hcg6_1 := FXR.out.cell 0 1 rfl rfl
  have hfg6_1 := FXR.out.free 0 1 rfl
  have hcg6_2 := FXR.out.cell 0 2 rfl rfl
  have hfg6_2 := FXR.out.free 0 2 rfl
  have hcg4_0 := FXR.out.cell 1 0 rfl rfl
  have hfg4_0 := FXR.out.free 1 0 rfl
  have hcg4_1 := FXR.out.cell 1 1 rfl rfl
  have hfg4_1 := FXR.out.free 1 1 rfl
  have hcg4_2 := FXR.out.cell 1 2 rfl rfl
  have hfg4_2 := FXR.out.free 1 2 rfl
  have hx := FXR.out.old HX.out
  go_wp2_with (first | (go_at_call 39; (with_reducible refine (impl_hasX.calls _ false _ (by rw [implHasX_tells]; exact congrArg some hkd)).mono ?_); rintro e w10 ⟨rfl, b11⟩; have FX9 := Aside0.mk (FXR.out.call b11.below); clear b11; clear FXR; clear hcg6_0 hfg6_0 hcg6_1 hfg6_1 hcg6_2 hfg6_2 hcg4_0 hfg4_0 hcg4_1 hfg4_1 hcg4_2 hfg4_2 hx; have hcg6_0 := FX9.out.cell 0 0 rfl rfl; have hfg6_0 := FX9.out.free 0 0 rfl; have hcg6_1 := FX9.out.cell 0 1 rfl rfl; have hfg6_1 := FX9.out.free 0 1 rfl; have hcg6_2 := FX9.out.cell 0 2 rfl rfl; have hfg6_2 := FX9.out.free 0 2 rfl; have hcg4_0 := FX9.out.cell 1 0 rfl rfl; have hfg4_0 := FX9.out.free 1 0 rfl; have hcg4_1 := FX9.out.cell 1 1 rfl rfl; have hfg4_1 := FX9.out.free 1 1 rfl; have hcg4_2 := FX9.out.cell 1 2 rfl rfl; have hfg4_2 := FX9.out.free 1 2 rfl; have hx := FX9.out.old HX.out) | (go_at_call 40; (with_reducible refine (impl_OpOk.calls 1 (wrap64 (Int.tdiv (wrap64 (rd l0 a1)) 5)) (Int.tmod (wrap64 (rd l0 a1)) 5) (0) false _ (by rw [implOpOk_tells 1 (by omega)]; exact congrArg some hok)).mono ?_); rintro e w13 ⟨rfl, b14⟩; have FX12 := Aside0.mk (FX9.out.call b14); clear b14; clear FX9; clear hcg6_0 hfg6_0 hcg6_1 hfg6_1 hcg6_2 hfg6_2 hcg4_0 hfg4_0 hcg4_1 hfg4_1 hcg4_2 hfg4_2 hx; have hcg6_0 := FX12.out.cell 0 0 rfl rfl; have hfg6_0 := FX12.out.free 0 0 rfl; have hcg6_1 := FX12.out.cell 0 1 rfl rfl; have hfg6_1 := FX12.out.free 0 1 rfl; have hcg6_2 := FX12.out.cell 0 2 rfl rfl; have hfg6_2 := FX12.out.free 0 2 rfl; have hcg4_0 := FX12.out.cell 1 0 rfl rfl; have hfg4_0 := FX12.out.free 1 0 rfl; have hcg4_1 := FX12.out.cell 1 1 rfl rfl; have hfg4_1 := FX12.out.free 1 1 rfl; have hcg4_2 := FX12.out.cell 1 2 rfl rfl; have hfg4_2 := FX12.out.free 1 2 rfl; have hx := FX12.out.old HX.out) | ((with_reducible refine gate_store (t := 24) (p := 4) rfl ?_); refine store_event (t := 24) (p := 4) (v := ?vo_w16) (w1 := (((w13.setCell ⟨g4, 0, none⟩ (.int .i64 0)).setCell ⟨g4, 1, none⟩ (.int .i64 0)).setCell ⟨g4, 2, none⟩ (.int .i64 0))) ?hg ?ho ?hn ?hr ?_; (case ho => rfl); (case hg => rfl); (case hn => rfl); (case hr => first | (go_simp; done) | (go_simp; rfl)); intro w16 e17; have FX15 : Aside0 (YtimlccgpeoaigaaX.Fx w w16 [YtimlccgpeoaigaaX.blk g6 24 #[.int .i64 (wrap64 (Int.tdiv (wrap64 (rd l0 a1)) 5)), .int .i64 (Int.tmod (wrap64 (rd l0 a1)) 5), .int .i64 0], YtimlccgpeoaigaaX.blk g4 24 #[.int .i64 0, .int .i64 0, .int .i64 0]]) := ⟨by rw [e17]; exact (((FX12.out.store 1 rfl 0 (.int .i64 0) #[.int .i64 0, .int .i64 0, .int .i64 0] rfl).store 1 rfl 1 (.int .i64 0) #[.int .i64 0, .int .i64 0, .int .i64 0] rfl).store 1 rfl 2 (.int .i64 0) #[.int .i64 0, .int .i64 0, .int .i64 0] rfl)⟩; clear e17; clear FX12; clear hcg6_0 hfg6_0 hcg6_1 hfg6_1 hcg6_2 hfg6_2 hcg4_0 hfg4_0 hcg4_1 hfg4_1 hcg4_2 hfg4_2 hx; have hcg6_0 := FX15.out.cell 0 0 rfl rfl; have hfg6_0 := FX15.out.free 0 0 rfl; have hcg6_1 := FX15.out.cell 0 1 rfl rfl; have hfg6_1 := FX15.out.free 0 1 rfl; have hcg6_2 := FX15.out.cell 0 2 rfl rfl; have hfg6_2 := FX15.out.free 0 2 rfl; have hcg4_0 := FX15.out.cell 1 0 rfl rfl; have hfg4_0 := FX15.out.free 1 0 rfl; have hcg4_1 := FX15.out.cell 1 1 rfl rfl; have hfg4_1 := FX15.out.free 1 1 rfl; have hcg4_2 := FX15.out.cell 1 2 rfl rfl; have hfg4_2 := FX15.out.free 1 2 rfl; have hx := FX15.out.old HX.out))
  exact bodyPost_ret (results_ct rfl _ _ g4 24 #[.int .i64 0, .int .i64 0, .int .i64 0] (0, 0) _ rfl (FX15.out.blkOf 1 rfl) Try.underlying24 rfl (by kernel_rfl)) rfl ⟨rfl, FX15.out.below⟩
def impl_UnpackOp.f (l0 : List Int) (a1 : Int) : Option (Int × Int × Int × Int) := some (unpack l0 a1)
theorem impl_UnpackOp.calls (A0 : Option Addr) (c0 : Nat) (l0 : List Int) (a1 : Int) (r1 : Int) (r2 : Int) (r3 : Int) (r4 : Int) (w : World) (hr0 : Kd.C (Kd.int .u8) w A0 l0.length l0) (hc0 : l0.length ≤ c0) (h : impl_UnpackOp.f l0 a1 = some (r1, r2, r3, r4)) :
    Calls Try.prog 12 #[.slice A0 l0.length c0, .int .i64 a1] w fun e w' => e = .returned (.tuple #[.agg #[.int .i64 r1, .int .i64 r2, .int .i64 r3], .int .i64 r4]) ∧ Below w.heap.size w w' := by
  have h' := Option.some.inj h
  clear h
  unfold unpack at h'
  by_cases h0 : a1 < 0
  · rw [if_pos h0] at h'
    simp only [Prod.mk.injEq] at h'
    obtain ⟨rfl, rfl, rfl, rfl⟩ := h'
    exact impl_UnpackOp.u_low A0 c0 l0 a1 w hr0 hc0 h0
  rw [if_neg h0] at h'
  by_cases h1 : (l0.length : Int) ≤ a1
  · rw [if_pos h1] at h'
    simp only [Prod.mk.injEq] at h'
    obtain ⟨rfl, rfl, rfl, rfl⟩ := h'
    exact impl_UnpackOp.u_high A0 c0 l0 a1 w hr0 hc0 (by omega) h1
  rw [if_neg h1] at h'
  by_cases h2 : 1 ≤ wrap64 (Int.tdiv (wrap64 (rd l0 a1)) 5) ∧ wrap64 (Int.tdiv (wrap64 (rd l0 a1)) 5) ≤ 3
  · rw [if_pos h2] at h'
    by_cases h3 : a1 + 1 < (l0.length : Int)
    · rw [if_pos h3] at h'
      by_cases h4 : opB (wrap64 (Int.tdiv (wrap64 (rd l0 a1)) 5)) (Int.tmod (wrap64 (rd l0 a1)) 5) (wrap64 (rd l0 (a1 + 1))) = true
      · rw [if_pos h4] at h'
        simp only [Prod.mk.injEq] at h'
        obtain ⟨rfl, rfl, rfl, rfl⟩ := h'
        exact impl_UnpackOp.u_two_true A0 c0 l0 a1 w hr0 hc0 (by omega) (by omega) (decide_eq_true h2) h3 h4
      · rw [if_neg h4] at h'
        simp only [Prod.mk.injEq] at h'
        obtain ⟨rfl, rfl, rfl, rfl⟩ := h'
        exact impl_UnpackOp.u_two_false A0 c0 l0 a1 w hr0 hc0 (by omega) (by omega) (decide_eq_true h2) h3 (Bool.eq_false_iff.mpr h4)
    · rw [if_neg h3] at h'
      simp only [Prod.mk.injEq] at h'
      obtain ⟨rfl, rfl, rfl, rfl⟩ := h'
      exact impl_UnpackOp.u_short A0 c0 l0 a1 w hr0 hc0 (by omega) (by omega) (decide_eq_true h2) h3
  · rw [if_neg h2] at h'
    by_cases h4 : opB (wrap64 (Int.tdiv (wrap64 (rd l0 a1)) 5)) (Int.tmod (wrap64 (rd l0 a1)) 5) 0 = true
    · rw [if_pos h4] at h'
      simp only [Prod.mk.injEq] at h'
      obtain ⟨rfl, rfl, rfl, rfl⟩ := h'
      exact impl_UnpackOp.u_one_true A0 c0 l0 a1 w hr0 hc0 (by omega) (by omega) (decide_eq_false h2) h4
    · rw [if_neg h4] at h'
      simp only [Prod.mk.injEq] at h'
      obtain ⟨rfl, rfl, rfl, rfl⟩ := h'
      exact impl_UnpackOp.u_one_false A0 c0 l0 a1 w hr0 hc0 (by omega) (by omega) (decide_eq_false h2) (Bool.eq_false_iff.mpr h4)


/-! ### laws_eqOp: function 13 -/
def laws_eqOp.f (a0_0 : Int) (a0_1 : Int) (a0_2 : Int) (a1_0 : Int) (a1_1 : Int) (a1_2 : Int) : Option (Bool) := if a0_0 = a1_0 then (if a0_1 = a1_1 then (if a0_2 = a1_2 then (some true) else (some false)) else (some false)) else (some false)
set_option maxHeartbeats 8000000 in
set_option maxRecDepth 100000 in
theorem laws_eqOp.calls (a0_0 : Int) (a0_1 : Int) (a0_2 : Int) (a1_0 : Int) (a1_1 : Int) (a1_2 : Int) (r : Bool) (w : World) (h : laws_eqOp.f a0_0 a0_1 a0_2 a1_0 a1_1 a1_2 = some r) :
    Calls Try.prog 13 #[.agg #[.int .i64 a0_0, .int .i64 a0_1, .int .i64 a0_2], .agg #[.int .i64 a1_0, .int .i64 a1_1, .int .i64 a1_2]] w fun e w' => e = .returned (.bool r) ∧ Below w.heap.size w w' := by
  have hu24 := Try.underlying24
  have HB := Aside0.mk (Below.refl w.heap.size w)
  have H : (if a0_0 = a1_0 then (if a0_1 = a1_1 then (if a0_2 = a1_2 then (some true) else (some false)) else (some false)) else (some false)) = some r := h
  clear h
  by_cases c3 : a0_0 = a1_0
  · rw [if_pos c3] at H
    have c3b0 : (a0_0 == a1_0) = true := beq_iff_eq.mpr c3
    have c3b1 : (a0_0 != a1_0) = false := bne_eq_false_iff_eq.mpr c3
    clear c3
    by_cases c4 : a0_1 = a1_1
    · rw [if_pos c4] at H
      have c4b0 : (a0_1 == a1_1) = true := beq_iff_eq.mpr c4
      have c4b1 : (a0_1 != a1_1) = false := bne_eq_false_iff_eq.mpr c4
      clear c4
      by_cases c5 : a0_2 = a1_2
      · rw [if_pos c5] at H
        have c5b0 : (a0_2 == a1_2) = true := beq_iff_eq.mpr c5
        have c5b1 : (a0_2 != a1_2) = false := bne_eq_false_iff_eq.mpr c5
        clear c5
        obtain rfl := Option.some.inj H
        go_enter Try.func13, Try.ntmps13
        go_wp2_with (first | ((with_reducible refine gate_dst (N := 2) rfl ?_); refine box_event ?hg (N := 2) ?hd (cs := #[.int .i64 a0_0, .int .i64 a0_1, .int .i64 a0_2]) (t := 24) ?hr ?_; (case hd => rfl); (case hg => rfl); (case hr => first | (go_simp; done) | (go_simp; rfl)); intro gb120 hg w6 hbox hb; have n0_ := Aside0.mk (below_step (by repeat (first | (with_reducible first | exact HB.out | apply below_alloc | apply pw_below_drewN | apply below_drew1) | exact HB.out)) hb); have n1_ := Aside0.mk (hbox); have n2_ := Aside0.mk ((by rw [hg]; exact (below_size (by repeat (first | (with_reducible first | exact HB.out | apply below_alloc | apply pw_below_drewN | apply below_drew1) | exact HB.out))) : w.heap.size ≤ gb120)); have n3_ := Aside0.mk ((by rw [hg]; exact (below_size (by repeat (first | (with_reducible first | exact HB.out | apply below_alloc | apply pw_below_drewN | apply below_drew1) | exact HB.out))) : w.heap.size ≤ gb120)); clear HB; have HB := n0_; have BK120 := n1_; have GW120 := n2_; have GE120 := n3_; clear n0_ n1_ n2_ n3_; clear hb hbox hg) | ((with_reducible refine gate_dst (N := 3) rfl ?_); refine box_event ?hg (N := 3) ?hd (cs := #[.int .i64 a1_0, .int .i64 a1_1, .int .i64 a1_2]) (t := 24) ?hr ?_; (case hd => rfl); (case hg => rfl); (case hr => first | (go_simp; done) | (go_simp; rfl)); intro gb121 hg w7 hbox hb; have n0_ := Aside0.mk (blk_below (g := gb120) (o := .cells #[.int .i64 a0_0, .int .i64 a0_1, .int .i64 a0_2] 24 (0, 0)) (by (with_reducible repeat (first | refine blk_drewN ?_ _ | refine blk_drew ?_ | refine blk_alloc ?_ _)); exact BK120.out) hb); have n1_ := Aside0.mk (below_step (by repeat (first | (with_reducible first | exact HB.out | apply below_alloc | apply pw_below_drewN | apply below_drew1 | refine below_set ?_ GE120.out) | exact HB.out)) hb); have n2_ := Aside0.mk (hbox); have n3_ := Aside0.mk ((by rw [hg]; exact (below_size (by repeat (first | (with_reducible first | exact HB.out | apply below_alloc | apply pw_below_drewN | apply below_drew1 | refine below_set ?_ GE120.out) | exact HB.out))) : w.heap.size ≤ gb121)); have n4_ := Aside0.mk ((by rw [hg]; exact (below_size (by repeat (first | (with_reducible first | exact HB.out | apply below_alloc | apply pw_below_drewN | apply below_drew1 | refine below_set ?_ GE120.out) | exact HB.out))) : w.heap.size ≤ gb121)); have n5_ := Aside0.mk ((by rw [hg]; exact Nat.ne_of_lt (blk_lt (g := gb120) (o := .cells #[.int .i64 a0_0, .int .i64 a0_1, .int .i64 a0_2] 24 (0, 0)) (by (with_reducible repeat (first | refine blk_drewN ?_ _ | refine blk_drew ?_ | refine blk_alloc ?_ _)); exact BK120.out)) : gb120 ≠ gb121)); have n6_ := Aside0.mk ((by rw [hg]; exact Nat.ne_of_gt (blk_lt (g := gb120) (o := .cells #[.int .i64 a0_0, .int .i64 a0_1, .int .i64 a0_2] 24 (0, 0)) (by (with_reducible repeat (first | refine blk_drewN ?_ _ | refine blk_drew ?_ | refine blk_alloc ?_ _)); exact BK120.out)) : gb121 ≠ gb120)); clear BK120; clear HB; have BK120 := n0_; have HB := n1_; have BK121 := n2_; have GW121 := n3_; have GE121 := n4_; have NB120_121 := n5_; have NB121_120 := n6_; clear n0_ n1_ n2_ n3_ n4_ n5_ n6_; clear hb hbox hg; have hnb8 := NB120_121.out; have hnc8 := NB121_120.out; have hcz9_0 : w7.cell? ⟨gb120, 0, none⟩ = some (.int .i64 a0_0) := (blk_cell BK120.out 0).trans rfl; have hcz9_1 : w7.cell? ⟨gb120, 1, none⟩ = some (.int .i64 a0_1) := (blk_cell BK120.out 1).trans rfl; have hcz9_2 : w7.cell? ⟨gb120, 2, none⟩ = some (.int .i64 a0_2) := (blk_cell BK120.out 2).trans rfl; have hfz9_0 := blk_frozen BK120.out 0; have hfz9_1 := blk_frozen BK120.out 1; have hfz9_2 := blk_frozen BK120.out 2; have hcz10_0 : w7.cell? ⟨gb121, 0, none⟩ = some (.int .i64 a1_0) := (blk_cell BK121.out 0).trans rfl; have hcz10_1 : w7.cell? ⟨gb121, 1, none⟩ = some (.int .i64 a1_1) := (blk_cell BK121.out 1).trans rfl; have hcz10_2 : w7.cell? ⟨gb121, 2, none⟩ = some (.int .i64 a1_2) := (blk_cell BK121.out 2).trans rfl; have hfz10_0 := blk_frozen BK121.out 0; have hfz10_1 := blk_frozen BK121.out 1; have hfz10_2 := blk_frozen BK121.out 2))
        go_ret
        exact ⟨by first | rfl | (simp [errW_none, errW_some] <;> rfl) | (simp [*, errW_none, errW_some] <;> rfl), by repeat (first | (with_reducible first | exact HB.out | apply below_alloc | apply pw_below_drewN | apply below_drew1 | refine below_set ?_ GE120.out | refine below_set ?_ GE121.out) | exact HB.out)⟩
      · rw [if_neg c5] at H
        have c5b0 : (a0_2 == a1_2) = false := beq_eq_false_iff_ne.mpr c5
        have c5b1 : (a0_2 != a1_2) = true := bne_iff_ne.mpr c5
        obtain rfl := Option.some.inj H
        go_enter Try.func13, Try.ntmps13
        go_wp2_with (first | ((with_reducible refine gate_dst (N := 2) rfl ?_); refine box_event ?hg (N := 2) ?hd (cs := #[.int .i64 a0_0, .int .i64 a0_1, .int .i64 a0_2]) (t := 24) ?hr ?_; (case hd => rfl); (case hg => rfl); (case hr => first | (go_simp; done) | (go_simp; rfl)); intro gb120 hg w11 hbox hb; have n0_ := Aside0.mk (below_step (by repeat (first | (with_reducible first | exact HB.out | apply below_alloc | apply pw_below_drewN | apply below_drew1) | exact HB.out)) hb); have n1_ := Aside0.mk (hbox); have n2_ := Aside0.mk ((by rw [hg]; exact (below_size (by repeat (first | (with_reducible first | exact HB.out | apply below_alloc | apply pw_below_drewN | apply below_drew1) | exact HB.out))) : w.heap.size ≤ gb120)); have n3_ := Aside0.mk ((by rw [hg]; exact (below_size (by repeat (first | (with_reducible first | exact HB.out | apply below_alloc | apply pw_below_drewN | apply below_drew1) | exact HB.out))) : w.heap.size ≤ gb120)); clear HB; have HB := n0_; have BK120 := n1_; have GW120 := n2_; have GE120 := n3_; clear n0_ n1_ n2_ n3_; clear hb hbox hg) | ((with_reducible refine gate_dst (N := 3) rfl ?_); refine box_event ?hg (N := 3) ?hd (cs := #[.int .i64 a1_0, .int .i64 a1_1, .int .i64 a1_2]) (t := 24) ?hr ?_; (case hd => rfl); (case hg => rfl); (case hr => first | (go_simp; done) | (go_simp; rfl)); intro gb121 hg w12 hbox hb; have n0_ := Aside0.mk (blk_below (g := gb120) (o := .cells #[.int .i64 a0_0, .int .i64 a0_1, .int .i64 a0_2] 24 (0, 0)) (by (with_reducible repeat (first | refine blk_drewN ?_ _ | refine blk_drew ?_ | refine blk_alloc ?_ _)); exact BK120.out) hb); have n1_ := Aside0.mk (below_step (by repeat (first | (with_reducible first | exact HB.out | apply below_alloc | apply pw_below_drewN | apply below_drew1 | refine below_set ?_ GE120.out) | exact HB.out)) hb); have n2_ := Aside0.mk (hbox); have n3_ := Aside0.mk ((by rw [hg]; exact (below_size (by repeat (first | (with_reducible first | exact HB.out | apply below_alloc | apply pw_below_drewN | apply below_drew1 | refine below_set ?_ GE120.out) | exact HB.out))) : w.heap.size ≤ gb121)); have n4_ := Aside0.mk ((by rw [hg]; exact (below_size (by repeat (first | (with_reducible first | exact HB.out | apply below_alloc | apply pw_below_drewN | apply below_drew1 | refine below_set ?_ GE120.out) | exact HB.out))) : w.heap.size ≤ gb121)); have n5_ := Aside0.mk ((by rw [hg]; exact Nat.ne_of_lt (blk_lt (g := gb120) (o := .cells #[.int .i64 a0_0, .int .i64 a0_1, .int .i64 a0_2] 24 (0, 0)) (by (with_reducible repeat (first | refine blk_drewN ?_ _ | refine blk_drew ?_ | refine blk_alloc ?_ _)); exact BK120.out)) : gb120 ≠ gb121)); have n6_ := Aside0.mk ((by rw [hg]; exact Nat.ne_of_gt (blk_lt (g := gb120) (o := .cells #[.int .i64 a0_0, .int .i64 a0_1, .int .i64 a0_2] 24 (0, 0)) (by (with_reducible repeat (first | refine blk_drewN ?_ _ | refine blk_drew ?_ | refine blk_alloc ?_ _)); exact BK120.out)) : gb121 ≠ gb120)); clear BK120; clear HB; have BK120 := n0_; have HB := n1_; have BK121 := n2_; have GW121 := n3_; have GE121 := n4_; have NB120_121 := n5_; have NB121_120 := n6_; clear n0_ n1_ n2_ n3_ n4_ n5_ n6_; clear hb hbox hg; have hnb13 := NB120_121.out; have hnc13 := NB121_120.out; have hcz14_0 : w12.cell? ⟨gb120, 0, none⟩ = some (.int .i64 a0_0) := (blk_cell BK120.out 0).trans rfl; have hcz14_1 : w12.cell? ⟨gb120, 1, none⟩ = some (.int .i64 a0_1) := (blk_cell BK120.out 1).trans rfl; have hcz14_2 : w12.cell? ⟨gb120, 2, none⟩ = some (.int .i64 a0_2) := (blk_cell BK120.out 2).trans rfl; have hfz14_0 := blk_frozen BK120.out 0; have hfz14_1 := blk_frozen BK120.out 1; have hfz14_2 := blk_frozen BK120.out 2; have hcz15_0 : w12.cell? ⟨gb121, 0, none⟩ = some (.int .i64 a1_0) := (blk_cell BK121.out 0).trans rfl; have hcz15_1 : w12.cell? ⟨gb121, 1, none⟩ = some (.int .i64 a1_1) := (blk_cell BK121.out 1).trans rfl; have hcz15_2 : w12.cell? ⟨gb121, 2, none⟩ = some (.int .i64 a1_2) := (blk_cell BK121.out 2).trans rfl; have hfz15_0 := blk_frozen BK121.out 0; have hfz15_1 := blk_frozen BK121.out 1; have hfz15_2 := blk_frozen BK121.out 2))
        go_ret
        exact ⟨by first | rfl | (simp [errW_none, errW_some] <;> rfl) | (simp [*, errW_none, errW_some] <;> rfl), by repeat (first | (with_reducible first | exact HB.out | apply below_alloc | apply pw_below_drewN | apply below_drew1 | refine below_set ?_ GE120.out | refine below_set ?_ GE121.out) | exact HB.out)⟩
    · rw [if_neg c4] at H
      have c4b0 : (a0_1 == a1_1) = false := beq_eq_false_iff_ne.mpr c4
      have c4b1 : (a0_1 != a1_1) = true := bne_iff_ne.mpr c4
      obtain rfl := Option.some.inj H
      go_enter Try.func13, Try.ntmps13
      go_wp2_with (first | ((with_reducible refine gate_dst (N := 2) rfl ?_); refine box_event ?hg (N := 2) ?hd (cs := #[.int .i64 a0_0, .int .i64 a0_1, .int .i64 a0_2]) (t := 24) ?hr ?_; (case hd => rfl); (case hg => rfl); (case hr => first | (go_simp; done) | (go_simp; rfl)); intro gb120 hg w16 hbox hb; have n0_ := Aside0.mk (below_step (by repeat (first | (with_reducible first | exact HB.out | apply below_alloc | apply pw_below_drewN | apply below_drew1) | exact HB.out)) hb); have n1_ := Aside0.mk (hbox); have n2_ := Aside0.mk ((by rw [hg]; exact (below_size (by repeat (first | (with_reducible first | exact HB.out | apply below_alloc | apply pw_below_drewN | apply below_drew1) | exact HB.out))) : w.heap.size ≤ gb120)); have n3_ := Aside0.mk ((by rw [hg]; exact (below_size (by repeat (first | (with_reducible first | exact HB.out | apply below_alloc | apply pw_below_drewN | apply below_drew1) | exact HB.out))) : w.heap.size ≤ gb120)); clear HB; have HB := n0_; have BK120 := n1_; have GW120 := n2_; have GE120 := n3_; clear n0_ n1_ n2_ n3_; clear hb hbox hg) | ((with_reducible refine gate_dst (N := 3) rfl ?_); refine box_event ?hg (N := 3) ?hd (cs := #[.int .i64 a1_0, .int .i64 a1_1, .int .i64 a1_2]) (t := 24) ?hr ?_; (case hd => rfl); (case hg => rfl); (case hr => first | (go_simp; done) | (go_simp; rfl)); intro gb121 hg w17 hbox hb; have n0_ := Aside0.mk (blk_below (g := gb120) (o := .cells #[.int .i64 a0_0, .int .i64 a0_1, .int .i64 a0_2] 24 (0, 0)) (by (with_reducible repeat (first | refine blk_drewN ?_ _ | refine blk_drew ?_ | refine blk_alloc ?_ _)); exact BK120.out) hb); have n1_ := Aside0.mk (below_step (by repeat (first | (with_reducible first | exact HB.out | apply below_alloc | apply pw_below_drewN | apply below_drew1 | refine below_set ?_ GE120.out) | exact HB.out)) hb); have n2_ := Aside0.mk (hbox); have n3_ := Aside0.mk ((by rw [hg]; exact (below_size (by repeat (first | (with_reducible first | exact HB.out | apply below_alloc | apply pw_below_drewN | apply below_drew1 | refine below_set ?_ GE120.out) | exact HB.out))) : w.heap.size ≤ gb121)); have n4_ := Aside0.mk ((by rw [hg]; exact (below_size (by repeat (first | (with_reducible first | exact HB.out | apply below_alloc | apply pw_below_drewN | apply below_drew1 | refine below_set ?_ GE120.out) | exact HB.out))) : w.heap.size ≤ gb121)); have n5_ := Aside0.mk ((by rw [hg]; exact Nat.ne_of_lt (blk_lt (g := gb120) (o := .cells #[.int .i64 a0_0, .int .i64 a0_1, .int .i64 a0_2] 24 (0, 0)) (by (with_reducible repeat (first | refine blk_drewN ?_ _ | refine blk_drew ?_ | refine blk_alloc ?_ _)); exact BK120.out)) : gb120 ≠ gb121)); have n6_ := Aside0.mk ((by rw [hg]; exact Nat.ne_of_gt (blk_lt (g := gb120) (o := .cells #[.int .i64 a0_0, .int .i64 a0_1, .int .i64 a0_2] 24 (0, 0)) (by (with_reducible repeat (first | refine blk_drewN ?_ _ | refine blk_drew ?_ | refine blk_alloc ?_ _)); exact BK120.out)) : gb121 ≠ gb120)); clear BK120; clear HB; have BK120 := n0_; have HB := n1_; have BK121 := n2_; have GW121 := n3_; have GE121 := n4_; have NB120_121 := n5_; have NB121_120 := n6_; clear n0_ n1_ n2_ n3_ n4_ n5_ n6_; clear hb hbox hg; have hnb18 := NB120_121.out; have hnc18 := NB121_120.out; have hcz19_0 : w17.cell? ⟨gb120, 0, none⟩ = some (.int .i64 a0_0) := (blk_cell BK120.out 0).trans rfl; have hcz19_1 : w17.cell? ⟨gb120, 1, none⟩ = some (.int .i64 a0_1) := (blk_cell BK120.out 1).trans rfl; have hcz19_2 : w17.cell? ⟨gb120, 2, none⟩ = some (.int .i64 a0_2) := (blk_cell BK120.out 2).trans rfl; have hfz19_0 := blk_frozen BK120.out 0; have hfz19_1 := blk_frozen BK120.out 1; have hfz19_2 := blk_frozen BK120.out 2; have hcz20_0 : w17.cell? ⟨gb121, 0, none⟩ = some (.int .i64 a1_0) := (blk_cell BK121.out 0).trans rfl; have hcz20_1 : w17.cell? ⟨gb121, 1, none⟩ = some (.int .i64 a1_1) := (blk_cell BK121.out 1).trans rfl; have hcz20_2 : w17.cell? ⟨gb121, 2, none⟩ = some (.int .i64 a1_2) := (blk_cell BK121.out 2).trans rfl; have hfz20_0 := blk_frozen BK121.out 0; have hfz20_1 := blk_frozen BK121.out 1; have hfz20_2 := blk_frozen BK121.out 2))
      go_ret
      exact ⟨by first | rfl | (simp [errW_none, errW_some] <;> rfl) | (simp [*, errW_none, errW_some] <;> rfl), by repeat (first | (with_reducible first | exact HB.out | apply below_alloc | apply pw_below_drewN | apply below_drew1 | refine below_set ?_ GE120.out | refine below_set ?_ GE121.out) | exact HB.out)⟩
  · rw [if_neg c3] at H
    have c3b0 : (a0_0 == a1_0) = false := beq_eq_false_iff_ne.mpr c3
    have c3b1 : (a0_0 != a1_0) = true := bne_iff_ne.mpr c3
    obtain rfl := Option.some.inj H
    go_enter Try.func13, Try.ntmps13
    go_wp2_with (first | ((with_reducible refine gate_dst (N := 2) rfl ?_); refine box_event ?hg (N := 2) ?hd (cs := #[.int .i64 a0_0, .int .i64 a0_1, .int .i64 a0_2]) (t := 24) ?hr ?_; (case hd => rfl); (case hg => rfl); (case hr => first | (go_simp; done) | (go_simp; rfl)); intro gb120 hg w21 hbox hb; have n0_ := Aside0.mk (below_step (by repeat (first | (with_reducible first | exact HB.out | apply below_alloc | apply pw_below_drewN | apply below_drew1) | exact HB.out)) hb); have n1_ := Aside0.mk (hbox); have n2_ := Aside0.mk ((by rw [hg]; exact (below_size (by repeat (first | (with_reducible first | exact HB.out | apply below_alloc | apply pw_below_drewN | apply below_drew1) | exact HB.out))) : w.heap.size ≤ gb120)); have n3_ := Aside0.mk ((by rw [hg]; exact (below_size (by repeat (first | (with_reducible first | exact HB.out | apply below_alloc | apply pw_below_drewN | apply below_drew1) | exact HB.out))) : w.heap.size ≤ gb120)); clear HB; have HB := n0_; have BK120 := n1_; have GW120 := n2_; have GE120 := n3_; clear n0_ n1_ n2_ n3_; clear hb hbox hg) | ((with_reducible refine gate_dst (N := 3) rfl ?_); refine box_event ?hg (N := 3) ?hd (cs := #[.int .i64 a1_0, .int .i64 a1_1, .int .i64 a1_2]) (t := 24) ?hr ?_; (case hd => rfl); (case hg => rfl); (case hr => first | (go_simp; done) | (go_simp; rfl)); intro gb121 hg w22 hbox hb; have n0_ := Aside0.mk (blk_below (g := gb120) (o := .cells #[.int .i64 a0_0, .int .i64 a0_1, .int .i64 a0_2] 24 (0, 0)) (by (with_reducible repeat (first | refine blk_drewN ?_ _ | refine blk_drew ?_ | refine blk_alloc ?_ _)); exact BK120.out) hb); have n1_ := Aside0.mk (below_step (by repeat (first | (with_reducible first | exact HB.out | apply below_alloc | apply pw_below_drewN | apply below_drew1 | refine below_set ?_ GE120.out) | exact HB.out)) hb); have n2_ := Aside0.mk (hbox); have n3_ := Aside0.mk ((by rw [hg]; exact (below_size (by repeat (first | (with_reducible first | exact HB.out | apply below_alloc | apply pw_below_drewN | apply below_drew1 | refine below_set ?_ GE120.out) | exact HB.out))) : w.heap.size ≤ gb121)); have n4_ := Aside0.mk ((by rw [hg]; exact (below_size (by repeat (first | (with_reducible first | exact HB.out | apply below_alloc | apply pw_below_drewN | apply below_drew1 | refine below_set ?_ GE120.out) | exact HB.out))) : w.heap.size ≤ gb121)); have n5_ := Aside0.mk ((by rw [hg]; exact Nat.ne_of_lt (blk_lt (g := gb120) (o := .cells #[.int .i64 a0_0, .int .i64 a0_1, .int .i64 a0_2] 24 (0, 0)) (by (with_reducible repeat (first | refine blk_drewN ?_ _ | refine blk_drew ?_ | refine blk_alloc ?_ _)); exact BK120.out)) : gb120 ≠ gb121)); have n6_ := Aside0.mk ((by rw [hg]; exact Nat.ne_of_gt (blk_lt (g := gb120) (o := .cells #[.int .i64 a0_0, .int .i64 a0_1, .int .i64 a0_2] 24 (0, 0)) (by (with_reducible repeat (first | refine blk_drewN ?_ _ | refine blk_drew ?_ | refine blk_alloc ?_ _)); exact BK120.out)) : gb121 ≠ gb120)); clear BK120; clear HB; have BK120 := n0_; have HB := n1_; have BK121 := n2_; have GW121 := n3_; have GE121 := n4_; have NB120_121 := n5_; have NB121_120 := n6_; clear n0_ n1_ n2_ n3_ n4_ n5_ n6_; clear hb hbox hg; have hnb23 := NB120_121.out; have hnc23 := NB121_120.out; have hcz24_0 : w22.cell? ⟨gb120, 0, none⟩ = some (.int .i64 a0_0) := (blk_cell BK120.out 0).trans rfl; have hcz24_1 : w22.cell? ⟨gb120, 1, none⟩ = some (.int .i64 a0_1) := (blk_cell BK120.out 1).trans rfl; have hcz24_2 : w22.cell? ⟨gb120, 2, none⟩ = some (.int .i64 a0_2) := (blk_cell BK120.out 2).trans rfl; have hfz24_0 := blk_frozen BK120.out 0; have hfz24_1 := blk_frozen BK120.out 1; have hfz24_2 := blk_frozen BK120.out 2; have hcz25_0 : w22.cell? ⟨gb121, 0, none⟩ = some (.int .i64 a1_0) := (blk_cell BK121.out 0).trans rfl; have hcz25_1 : w22.cell? ⟨gb121, 1, none⟩ = some (.int .i64 a1_1) := (blk_cell BK121.out 1).trans rfl; have hcz25_2 : w22.cell? ⟨gb121, 2, none⟩ = some (.int .i64 a1_2) := (blk_cell BK121.out 2).trans rfl; have hfz25_0 := blk_frozen BK121.out 0; have hfz25_1 := blk_frozen BK121.out 1; have hfz25_2 := blk_frozen BK121.out 2))
    go_ret
    exact ⟨by first | rfl | (simp [errW_none, errW_some] <;> rfl) | (simp [*, errW_none, errW_some] <;> rfl), by repeat (first | (with_reducible first | exact HB.out | apply below_alloc | apply pw_below_drewN | apply below_drew1 | refine below_set ?_ GE120.out | refine below_set ?_ GE121.out) | exact HB.out)⟩

/-! ### laws_eqByteS: function 14 -/
def laws_eqByteS.l0 : Nat → List Int → List Int → Int → Option (Bool)
  | 0, _, _, _ => none
  | k + 1, x0, x1, x5 => if x5 < (x0.length : Int) then (if 0 ≤ x5 then (if x5 < (x1.length : Int) then (if (rd x0 x5) = (rd x1 x5) then (laws_eqByteS.l0 k x0 x1 (wrap64 (x5 + 1))) else (some false)) else (none)) else (none)) else (some true)
def laws_eqByteS.f (k : Nat) (l0 : List Int) (l1 : List Int) : Option (Bool) := if (l0.length : Int) = (l1.length : Int) then (laws_eqByteS.l0 k l0 l1 0) else (some false)
theorem laws_eqByteS.mono_l : ∀ k, (∀ y0 y1 y2, LeO (laws_eqByteS.l0 k y0 y1 y2) (laws_eqByteS.l0 (k + 1) y0 y1 y2))
  | 0 => fun _ _ _ r h => by simp [laws_eqByteS.l0] at h
  | k + 1 => by
    have ih0 := laws_eqByteS.mono_l k
    · intro y0 y1 y2
      unfold laws_eqByteS.l0
      repeat' first
      | (with_reducible exact ih0 _ _ _)
      | (with_reducible exact LeO.refl _)
      | (with_reducible exact LeO.none _)
      | (with_reducible refine LeO.ite ?_ ?_)
      | (with_reducible refine LeO.bind ?_ (fun _ => ?_))
      | exact ih0 _ _ _
      | exact LeO.none _
      | refine LeO.ite ?_ ?_
      | refine LeO.bind ?_ (fun _ => ?_)
theorem laws_eqByteS.mono : ∀ a0 a1 k, LeO (laws_eqByteS.f k a0 a1) (laws_eqByteS.f (k + 1) a0 a1) := by
  intro a0 a1 k
  have ih0 := laws_eqByteS.mono_l k
  unfold laws_eqByteS.f
  repeat' first
      | (with_reducible exact ih0 _ _ _)
      | (with_reducible exact LeO.refl _)
      | (with_reducible exact LeO.none _)
      | (with_reducible refine LeO.ite ?_ ?_)
      | (with_reducible refine LeO.bind ?_ (fun _ => ?_))
      | exact ih0 _ _ _
      | exact LeO.none _
      | refine LeO.ite ?_ ?_
      | refine LeO.bind ?_ (fun _ => ?_)
set_option maxHeartbeats 8000000 in
set_option maxRecDepth 100000 in
theorem laws_eqByteS.calls (k : Nat) (A0 : Option Addr) (c0 : Nat) (l0 : List Int) (A1 : Option Addr) (c1 : Nat) (l1 : List Int) (r : Bool) (w : World) (hr0 : Kd.C (Kd.int .u8) w A0 l0.length l0) (hc0 : l0.length ≤ c0) (hr1 : Kd.C (Kd.int .u8) w A1 l1.length l1) (hc1 : l1.length ≤ c1) (h : laws_eqByteS.f k l0 l1 = some r) :
    Calls Try.prog 14 #[.slice A0 l0.length c0, .slice A1 l1.length c1] w fun e w' => e = .returned (.bool r) ∧ Drawn0 w w' := by
  have HR0 := Aside0.mk hr0
  have HC0 := Aside0.mk hc0
  clear hr0 hc0
  have HR1 := Aside0.mk hr1
  have HC1 := Aside0.mk hc1
  clear hr1 hc1
  have H : (if (l0.length : Int) = (l1.length : Int) then (laws_eqByteS.l0 k l0 l1 0) else (some false)) = some r := h
  clear h
  by_cases c3 : (l0.length : Int) = (l1.length : Int)
  · rw [if_pos c3] at H
    have c3b0 : ((l0.length : Int) == (l1.length : Int)) = true := beq_iff_eq.mpr c3
    have c3b1 : ((l0.length : Int) != (l1.length : Int)) = false := bne_eq_false_iff_eq.mpr c3
    have c3b2 : (l0.length == l1.length) = true := by first | simpa using c3 | (simp at c3 ⊢; omega)
    clear c3
    have H' := Aside0.mk H
    clear H
    go_enter Try.func14, Try.ntmps14
    go_wp2
    repeat (go_quiet (fail); try go_wp2)
    go_loopg [5] k (fun kq v5 w' => ∃ (x5_1 : Int), v5 = .int .i64 x5_1 ∧ Aside0 (laws_eqByteS.l0 kq l0 l1 x5_1 = some r) ∧ Aside0 (kq ≤ k) ∧ Drawn0 w w')
    case atStart => exact ⟨(0), (by first | rfl | (simp; done) | (simp [*]; done)), H', ⟨Nat.le_refl _⟩, by repeat (first | exact Drawn0.refl _ | apply Drawn0.step)⟩
    case round =>
      clear H'
      try clear c1
      try clear p2
      try clear c3
      try clear c3b0
      try clear c3b1
      try clear c3b2
      obtain ⟨x5_1, rfl, HA, HK1, ⟨m1, rfl⟩⟩ := hrel
      cases gk with
      | zero => exact absurd HA.out (by simp [laws_eqByteS.l0])
      | succ k1 =>
        have H := HA.out
        clear HA
        simp only [laws_eqByteS.l0] at H
        by_cases c4 : x5_1 < (l0.length : Int)
        · rw [if_pos c4] at H
          have c4b0 : decide (x5_1 < (l0.length : Int)) = true := decide_eq_true c4
          clear c4
          by_cases c5 : 0 ≤ x5_1
          · rw [if_pos c5] at H
            have c5b0 : decide (0 ≤ x5_1) = true := decide_eq_true c5
            clear c5
            by_cases c6 : x5_1 < (l1.length : Int)
            · rw [if_pos c6] at H
              have c6b0 : decide (x5_1 < (l1.length : Int)) = true := decide_eq_true c6
              clear c6
              by_cases c7 : (rd l0 x5_1) = (rd l1 x5_1)
              · rw [if_pos c7] at H
                have c7b0 : ((rd l0 x5_1) == (rd l1 x5_1)) = true := beq_iff_eq.mpr c7
                have c7b1 : ((rd l0 x5_1) != (rd l1 x5_1)) = false := bne_eq_false_iff_eq.mpr c7
                clear c7
                have H' := Aside0.mk H
                clear H
                have p122 : 0 ≤ (x5_1 : Int) := of_decide_eq_true (by first | (with_reducible assumption) | assumption)
                have q122 : x5_1 < (l0.length : Int) := of_decide_eq_true (by first | (with_reducible assumption) | assumption)
                obtain ⟨ad122, e122, hx122_0⟩ := Kd.at_int HR0.out x5_1 p122 q122
                cases e122
                replace p122 := eq_true p122
                replace q122 := eq_true q122
                have p123 : 0 ≤ (x5_1 : Int) := of_decide_eq_true (by first | (with_reducible assumption) | assumption)
                have q123 : x5_1 < (l1.length : Int) := of_decide_eq_true (by first | (with_reducible assumption) | assumption)
                obtain ⟨ad123, e123, hx123_0⟩ := Kd.at_int HR1.out x5_1 p123 q123
                cases e123
                replace p123 := eq_true p123
                replace q123 := eq_true q123
                go_wp2
                repeat (go_quiet (fail); try go_wp2)
                go_roundg k1
                case measure => have := HK1.out; omega
                case rel => exact ⟨(wrap64 (x5_1 + 1)), (by first | rfl | (simp; done) | (simp [*]; done)), H', ⟨by have := HK1.out; omega⟩, by repeat (first | exact Drawn0.refl _ | apply Drawn0.step)⟩
              · rw [if_neg c7] at H
                have c7b0 : ((rd l0 x5_1) == (rd l1 x5_1)) = false := beq_eq_false_iff_ne.mpr c7
                have c7b1 : ((rd l0 x5_1) != (rd l1 x5_1)) = true := bne_iff_ne.mpr c7
                obtain rfl := Option.some.inj H
                have p122 : 0 ≤ (x5_1 : Int) := of_decide_eq_true (by first | (with_reducible assumption) | assumption)
                have q122 : x5_1 < (l0.length : Int) := of_decide_eq_true (by first | (with_reducible assumption) | assumption)
                obtain ⟨ad122, e122, hx122_0⟩ := Kd.at_int HR0.out x5_1 p122 q122
                cases e122
                replace p122 := eq_true p122
                replace q122 := eq_true q122
                have p123 : 0 ≤ (x5_1 : Int) := of_decide_eq_true (by first | (with_reducible assumption) | assumption)
                have q123 : x5_1 < (l1.length : Int) := of_decide_eq_true (by first | (with_reducible assumption) | assumption)
                obtain ⟨ad123, e123, hx123_0⟩ := Kd.at_int HR1.out x5_1 p123 q123
                cases e123
                replace p123 := eq_true p123
                replace q123 := eq_true q123
                go_wp2
                repeat (go_quiet (fail); try go_wp2)
                go_ret
                exact ⟨by first | rfl | (simp; done) | (simp [*]; done), by repeat (first | exact Drawn0.refl _ | apply Drawn0.step)⟩
            · rw [if_neg c6] at H
              exact absurd H (by simp)
          · rw [if_neg c5] at H
            exact absurd H (by simp)
        · rw [if_neg c4] at H
          have c4b0 : decide (x5_1 < (l0.length : Int)) = false := decide_eq_false c4
          clear c4
          obtain rfl := Option.some.inj H
          go_wp2
          repeat (go_quiet (fail); try go_wp2)
          go_ret
          exact ⟨by first | rfl | (simp; done) | (simp [*]; done), by repeat (first | exact Drawn0.refl _ | apply Drawn0.step)⟩
  · rw [if_neg c3] at H
    have c3b0 : ((l0.length : Int) == (l1.length : Int)) = false := beq_eq_false_iff_ne.mpr c3
    have c3b1 : ((l0.length : Int) != (l1.length : Int)) = true := bne_iff_ne.mpr c3
    have c3b2 : (l0.length == l1.length) = false := by first | simpa using c3 | (simp at c3 ⊢; omega)
    obtain rfl := Option.some.inj H
    go_enter Try.func14, Try.ntmps14
    go_wp2
    repeat (go_quiet (fail); try go_wp2)
    go_ret
    exact ⟨by first | rfl | (simp; done) | (simp [*]; done), by repeat (first | exact Drawn0.refl _ | apply Drawn0.step)⟩

end Go.Proofs.Ytimlccgpeoaigaa.PFnExactUnpackOp
