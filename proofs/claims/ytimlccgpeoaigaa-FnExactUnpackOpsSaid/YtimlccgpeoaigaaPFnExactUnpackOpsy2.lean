-- Written by a program of this session (wip/tools/mkprint2.py over the kit's print); texts of functions that the print does not take are the session's own (ext.py).
import Derived.Test.YtimlccgpeoaigaaPFnExactUnpackOpsy0
namespace Go.Proofs.Ytimlccgpeoaigaa.PFnExactUnpackOps
open Go.RowKit Go.Proofs.YtimlccgpeoaigaaW.PrintWords Go.Proofs.YtimlccgpeoaigaaW.PrintLast Go.Proofs.YtimlccgpeoaigaaW.PrintMore
attribute [local go_sem] max2_int min2_int max_two min_two max_three min_three max_four min_four   -- for this text's walks alone
set_option linter.unusedVariables false
set_option linter.unusedSimpArgs false

/-! ### laws_markByteS: function 21 -/
def laws_markByteS.l0 : Nat → List Int → Int → Int → Option (Int × List Int)
  | 0, _, _, _ => none
  | k + 1, x0, x1, x5 => if x5 < (x0.length : Int) then (if 0 ≤ x5 then (laws_markByteS.l0 k (x0.set (x5 : Int).toNat ((x1) % 256)) (wrap64 (x1 + 1)) (wrap64 (x5 + 1))) else (none)) else (some (x1, x0))
def laws_markByteS.f (k : Nat) (l0 : List Int) (a1 : Int) : Option (Int × List Int) := laws_markByteS.l0 k l0 a1 0
theorem laws_markByteS.mono_l : ∀ k, (∀ y0 y1 y2, LeO (laws_markByteS.l0 k y0 y1 y2) (laws_markByteS.l0 (k + 1) y0 y1 y2))
  | 0 => fun _ _ _ r h => by simp [laws_markByteS.l0] at h
  | k + 1 => by
    have ih0 := laws_markByteS.mono_l k
    · intro y0 y1 y2
      unfold laws_markByteS.l0
      repeat' first
      | (with_reducible exact ih0 _ _ _)
      | (with_reducible exact LeO.refl _)
      | (with_reducible exact LeO.none _)
      | (with_reducible refine LeO.ite ?_ ?_)
      | (with_reducible refine LeO.bind ?_ (fun _ => ?_))
      | exact ih0 _ _ _
      | exact LeO.none _
      | refine LeO.ite ?_ ?_
      | refine LeO.bind ?_ (fun _ => ?_)
theorem laws_markByteS.mono : ∀ a0 a1 k, LeO (laws_markByteS.f k a0 a1) (laws_markByteS.f (k + 1) a0 a1) := by
  intro a0 a1 k
  have ih0 := laws_markByteS.mono_l k
  unfold laws_markByteS.f
  repeat' first
      | (with_reducible exact ih0 _ _ _)
      | (with_reducible exact LeO.refl _)
      | (with_reducible exact LeO.none _)
      | (with_reducible refine LeO.ite ?_ ?_)
      | (with_reducible refine LeO.bind ?_ (fun _ => ?_))
      | exact ih0 _ _ _
      | exact LeO.none _
      | refine LeO.ite ?_ ?_
      | refine LeO.bind ?_ (fun _ => ?_)
set_option maxHeartbeats 8000000 in
set_option maxRecDepth 100000 in
theorem laws_markByteS.calls (k : Nat) (P0_ : Nat → Prop) (u9000_ : Value) (l0 : List Int) (a1 : Int) (r1 : Int) (r2 : List Int) (w0 w : World) (hB : Below w0.heap.size w0 w) (ho0 : Kd.R (Kd.int .u8) 5 w w0.heap.size P0_ u9000_ l0) (h : laws_markByteS.f k l0 a1 = some (r1, r2)) :
    Calls Try.prog 21 #[u9000_, .int .i64 a1] w fun e w' => e = .returned (.int .i64 r1) ∧ Kd.R (Kd.int .u8) 5 w' w0.heap.size (fun k_ => (P0_ k_ ∨ w.heap.size ≤ k_)) u9000_ r2 ∧ Below w0.heap.size w0 w' ∧ Kept w w' (fun k_ => P0_ k_) := by
  have HO0 := Aside0.mk (show Kd.R (Kd.int .u8) 5 w w0.heap.size (fun k_ => (P0_ k_ ∨ w.heap.size ≤ k_)) u9000_ l0 from Kd.R_mono ho0 (fun k_ hk => (.inl hk)))
  have HK := Aside0.mk (Kept.refl w (fun k_ => P0_ k_))
  have HW0 := Aside0.mk hB.size
  have HB := Aside0.mk hB
  clear hB
  have H : (laws_markByteS.l0 k l0 a1 0) = some (r1, r2) := h
  clear h
  have H' := Aside0.mk H
  clear H
  go_enter Try.func21, Try.ntmps21
  go_wp2
  go_loopg [1, 5] k (fun kq v1 v5 w' => ∃ (x0_1 : List Int) (x1_1 : Int) (x5_1 : Int), v1 = .int .i64 x1_1 ∧ v5 = .int .i64 x5_1 ∧ Aside0 (laws_markByteS.l0 kq x0_1 x1_1 x5_1 = some (r1, r2)) ∧ Aside0 (kq ≤ k) ∧ Aside0 (Kd.R (Kd.int .u8) 5 w' w0.heap.size (fun k_ => (P0_ k_ ∨ w.heap.size ≤ k_)) u9000_ x0_1) ∧ Aside0 (Kept w w' (fun k_ => P0_ k_)) ∧ Aside0 (Below w0.heap.size w0 w'))
  case atStart => exact ⟨(l0), (a1), (0), (by first | rfl | (simp; done) | (simp [*]; done)), (by first | rfl | (simp; done) | (simp [*]; done)), H', ⟨Nat.le_refl _⟩, ⟨by (with_reducible repeat (first | apply Kd.R_alloc | apply Kd.R_drewN | apply Kd.R_drew)); exact HO0.out⟩, ⟨by repeat (first | (with_reducible first | exact HK.out | apply Kept.alloc | apply Kept.drewN | apply Kept.drew) | exact HK.out)⟩, ⟨by repeat (first | (with_reducible first | exact HB.out | apply below_alloc | apply pw_below_drewN | apply below_drew1) | exact HB.out)⟩⟩
  case round =>
    clear H'
    try clear c2
    try clear p2
    obtain ⟨x0_1, x1_1, x5_1, rfl, rfl, HA, HK1, HO_0, HK, HB⟩ := hrel
    cases gk with
    | zero => exact absurd HA.out (by simp [laws_markByteS.l0])
    | succ k1 =>
      have H := HA.out
      clear HA
      simp only [laws_markByteS.l0] at H
      by_cases c3 : x5_1 < (x0_1.length : Int)
      · rw [if_pos c3] at H
        have c3b0 : decide (x5_1 < (x0_1.length : Int)) = true := decide_eq_true c3
        clear c3
        by_cases c4 : 0 ≤ x5_1
        · rw [if_pos c4] at H
          have c4b0 : decide (0 ≤ x5_1) = true := decide_eq_true c4
          clear c4
          obtain ⟨y116, hy116⟩ : ∃ y_ : List Int, y_ = (x0_1.set (x5_1 : Int).toNat ((x1_1) % 256)) := ⟨_, rfl⟩
          replace H : (laws_markByteS.l0 k1 y116 (wrap64 (x1_1 + 1)) (wrap64 (x5_1 + 1))) = some (r1, r2) := by first | (rw [hy116]; with_reducible exact H) | (have H2_ := (Option.bind_some _ _).symm.trans H; rw [hy116]; with_reducible exact H2_) | (have H2_ := (Option.bind_some _ _).symm.trans H; with_reducible exact H2_) | with_reducible exact H | (rw [hy116]; exact H) | exact H
          have Ny116 := Aside0.mk hy116
          clear hy116
          have H' := Aside0.mk H
          clear H
          obtain ⟨Ao6, co6, eo6⟩ := Kd.R_slice HO_0.out
          subst eo6
          have p5 : 0 ≤ (x5_1 : Int) := of_decide_eq_true (by first | (with_reducible assumption) | assumption)
          have q5 : (x5_1 : Int) < ((x0_1.length : Int) : Int) := of_decide_eq_true (by first | (with_reducible assumption) | assumption)
          obtain ⟨go5, co5, eo5, gb5, gl5, cl5, HG5⟩ := Kd.R_form HO_0.out (by omega)
          (first | cases eo5 | (injection eo5 with ea_ en_ ec_; (first | subst ea_ | (injection ea_ with ea_; subst ea_)); subst ec_; clear en_))
          have GB5 := Aside0.mk gb5
          have GG5 := Aside0.mk HG5
          clear gb5 gl5 HG5
          have HMgo5 := Aside0.mk (show (P0_ go5 ∨ w.heap.size ≤ go5) from (HO_0.out.1 _ rfl))
          obtain ⟨hx5_0, hf5_0⟩ := Kd.R_celln 0 HO_0.out (x5_1 : Int) p5 q5
          replace p5 := eq_true p5
          replace q5 := eq_true q5
          have HP7 := Kd.R_putg HO_0.out (x5_1 : Int) ((x1_1) % 256)
          go_wp2_with (first | ((with_reducible refine gate_store (t := 5) (p := 16) rfl ?_); refine store_event (t := 5) (p := 16) (v := ?vo_w8) (w1 := (wr.setCell ⟨go5, (x5_1 : Int).toNat, none⟩ (.int .u8 ((x1_1) % 256)))) ?hg ?ho ?hn ?hr ?_; (case ho => rfl); (case hg => rfl); (case hn => rfl); (case hr => first | (go_simp; done) | (go_simp; rfl)); intro w8 hw; have hg : wr.grownBy w8 (some go5) := (by rw [hw]; exact HP7.2); have hp_ : Kd.R (Kd.int .u8) 5 w8 w0.heap.size (fun k_ => (P0_ k_ ∨ w.heap.size ≤ k_)) (.slice (some ⟨go5, 0, none⟩) x0_1.length co6) y116 := (by rw [hw, Ny116.out]; exact HP7.1); clear HP7; have n0_ := Aside0.mk (hp_); have n1_ := Aside0.mk ((by rw [hw]; exact below_set (HB.out) GB5.out : Below w0.heap.size w0 w8)); have n2_ := Aside0.mk (Kept.of_grown (S := (fun k_ => P0_ k_)) hg (by repeat (first | (with_reducible first | exact HK.out | apply Kept.alloc | apply Kept.drewN | apply Kept.drew) | exact HK.out)) (fun k_ e_ => (HO_0.out.1 k_ e_))); clear HO_0; clear HB; clear HK; have HO_0 := n0_; have HB := n1_; have HK := n2_; clear n0_ n1_ n2_; clear hg hw hp_))
          go_roundg k1
          case measure => have := HK1.out; omega
          case rel => exact ⟨(y116), (wrap64 (x1_1 + 1)), (wrap64 (x5_1 + 1)), (by first | rfl | (simp; done) | (simp [*]; done)), (by first | rfl | (simp; done) | (simp [*]; done)), H', ⟨by have := HK1.out; omega⟩, ⟨by (with_reducible repeat (first | apply Kd.R_alloc | apply Kd.R_drewN | apply Kd.R_drew)); exact HO_0.out⟩, ⟨by repeat (first | (with_reducible first | exact HK.out | apply Kept.alloc | apply Kept.drewN | apply Kept.drew) | exact HK.out)⟩, ⟨by repeat (first | (with_reducible first | exact HB.out | apply below_alloc | apply pw_below_drewN | apply below_drew1) | exact HB.out)⟩⟩
        · rw [if_neg c4] at H
          exact absurd H (by simp)
      · rw [if_neg c3] at H
        have c3b0 : decide (x5_1 < (x0_1.length : Int)) = false := decide_eq_false c3
        clear c3
        simp only [Option.some.injEq, Prod.mk.injEq] at H
        obtain ⟨rfl, rfl⟩ := H
        obtain ⟨Ao9, co9, eo9⟩ := Kd.R_slice HO_0.out
        subst eo9
        go_wp2
        go_ret
        exact ⟨by first | rfl | (simp [errW_none, errW_some] <;> rfl) | (simp [*, errW_none, errW_some] <;> rfl), by (with_reducible repeat (first | apply Kd.R_alloc | apply Kd.R_drewN | apply Kd.R_drew)); exact HO_0.out, by repeat (first | (with_reducible first | exact HB.out | apply below_alloc | apply pw_below_drewN | apply below_drew1) | exact HB.out), by repeat (first | (with_reducible first | exact HK.out | apply Kept.alloc | apply Kept.drewN | apply Kept.drew) | exact HK.out)⟩

/-! ### laws_heldOpS: function 27 -/
def laws_heldOpS.l0 : Nat → List (S24) → Int → Int → Option (Int)
  | 0, _, _, _ => none
  | k + 1, x0, x1, x5 => if x5 < (x0.length : Int) then (if 0 ≤ x5 then (if ((rd_T24 x0 x5).f0) = x1 then (if ((rd_T24 x0 x5).f1) = (wrap64 (x1 + 1)) then (if ((rd_T24 x0 x5).f2) = (wrap64 ((wrap64 (x1 + 1)) + 1)) then (laws_heldOpS.l0 k x0 (wrap64 ((wrap64 ((wrap64 (x1 + 1)) + 1)) + 1)) (wrap64 (x5 + 1))) else (some (-1))) else (some (-1))) else (some (-1))) else (none)) else (some x1)
def laws_heldOpS.f (k : Nat) (l0 : List (S24)) (a1 : Int) : Option (Int) := laws_heldOpS.l0 k l0 a1 0
theorem laws_heldOpS.mono_l : ∀ k, (∀ y0 y1 y2, LeO (laws_heldOpS.l0 k y0 y1 y2) (laws_heldOpS.l0 (k + 1) y0 y1 y2))
  | 0 => fun _ _ _ r h => by simp [laws_heldOpS.l0] at h
  | k + 1 => by
    have ih0 := laws_heldOpS.mono_l k
    · intro y0 y1 y2
      unfold laws_heldOpS.l0
      repeat' first
      | (with_reducible exact ih0 _ _ _)
      | (with_reducible exact LeO.refl _)
      | (with_reducible exact LeO.none _)
      | (with_reducible refine LeO.ite ?_ ?_)
      | (with_reducible refine LeO.bind ?_ (fun _ => ?_))
      | exact ih0 _ _ _
      | exact LeO.none _
      | refine LeO.ite ?_ ?_
      | refine LeO.bind ?_ (fun _ => ?_)
theorem laws_heldOpS.mono : ∀ a0 a1 k, LeO (laws_heldOpS.f k a0 a1) (laws_heldOpS.f (k + 1) a0 a1) := by
  intro a0 a1 k
  have ih0 := laws_heldOpS.mono_l k
  unfold laws_heldOpS.f
  repeat' first
      | (with_reducible exact ih0 _ _ _)
      | (with_reducible exact LeO.refl _)
      | (with_reducible exact LeO.none _)
      | (with_reducible refine LeO.ite ?_ ?_)
      | (with_reducible refine LeO.bind ?_ (fun _ => ?_))
      | exact ih0 _ _ _
      | exact LeO.none _
      | refine LeO.ite ?_ ?_
      | refine LeO.bind ?_ (fun _ => ?_)
set_option maxHeartbeats 8000000 in
set_option maxRecDepth 100000 in
theorem laws_heldOpS.calls (k : Nat) (A0 : Option Addr) (c0 : Nat) (l0 : List (S24)) (a1 : Int) (r : Int) (w : World) (hr0 : Kd.C k24 w A0 l0.length l0) (hc0 : l0.length ≤ c0) (h : laws_heldOpS.f k l0 a1 = some r) :
    Calls Try.prog 27 #[.slice A0 l0.length c0, .int .i64 a1] w fun e w' => e = .returned (.int .i64 r) ∧ Drawn0 w w' := by
  have HR0 := Aside0.mk hr0
  have HC0 := Aside0.mk hc0
  clear hr0 hc0
  have H : (laws_heldOpS.l0 k l0 a1 0) = some r := h
  clear h
  have H' := Aside0.mk H
  clear H
  go_enter Try.func27, Try.ntmps27
  go_wp2
  go_loopg [1, 5] k (fun kq v1 v5 w' => ∃ (x1_1 : Int) (x5_1 : Int), v1 = .int .i64 x1_1 ∧ v5 = .int .i64 x5_1 ∧ Aside0 (laws_heldOpS.l0 kq l0 x1_1 x5_1 = some r) ∧ Aside0 (kq ≤ k) ∧ Drawn0 w w')
  case atStart => exact ⟨(a1), (0), (by first | rfl | (simp; done) | (simp [*]; done)), (by first | rfl | (simp; done) | (simp [*]; done)), H', ⟨Nat.le_refl _⟩, by repeat (first | exact Drawn0.refl _ | apply Drawn0.step)⟩
  case round =>
    clear H'
    try clear c2
    try clear p2
    obtain ⟨x1_1, x5_1, rfl, rfl, HA, HK1, ⟨m1, rfl⟩⟩ := hrel
    cases gk with
    | zero => exact absurd HA.out (by simp [laws_heldOpS.l0])
    | succ k1 =>
      have H := HA.out
      clear HA
      simp only [laws_heldOpS.l0] at H
      by_cases c3 : x5_1 < (l0.length : Int)
      · rw [if_pos c3] at H
        have c3b0 : decide (x5_1 < (l0.length : Int)) = true := decide_eq_true c3
        clear c3
        by_cases c4 : 0 ≤ x5_1
        · rw [if_pos c4] at H
          have c4b0 : decide (0 ≤ x5_1) = true := decide_eq_true c4
          clear c4
          by_cases c5 : ((rd_T24 l0 x5_1).f0) = x1_1
          · rw [if_pos c5] at H
            have c5b0 : (((rd_T24 l0 x5_1).f0) == x1_1) = true := beq_iff_eq.mpr c5
            have c5b1 : (((rd_T24 l0 x5_1).f0) != x1_1) = false := bne_eq_false_iff_eq.mpr c5
            clear c5
            by_cases c6 : ((rd_T24 l0 x5_1).f1) = (wrap64 (x1_1 + 1))
            · rw [if_pos c6] at H
              have c6b0 : (((rd_T24 l0 x5_1).f1) == (wrap64 (x1_1 + 1))) = true := beq_iff_eq.mpr c6
              have c6b1 : (((rd_T24 l0 x5_1).f1) != (wrap64 (x1_1 + 1))) = false := bne_eq_false_iff_eq.mpr c6
              clear c6
              by_cases c7 : ((rd_T24 l0 x5_1).f2) = (wrap64 ((wrap64 (x1_1 + 1)) + 1))
              · rw [if_pos c7] at H
                have c7b0 : (((rd_T24 l0 x5_1).f2) == (wrap64 ((wrap64 (x1_1 + 1)) + 1))) = true := beq_iff_eq.mpr c7
                have c7b1 : (((rd_T24 l0 x5_1).f2) != (wrap64 ((wrap64 (x1_1 + 1)) + 1))) = false := bne_eq_false_iff_eq.mpr c7
                clear c7
                have H' := Aside0.mk H
                clear H
                have p117 : 0 ≤ (x5_1 : Int) := of_decide_eq_true (by first | (with_reducible assumption) | assumption)
                have q117 : x5_1 < (l0.length : Int) := of_decide_eq_true (by first | (with_reducible assumption) | assumption)
                obtain ⟨ad117, e117, hx117_0, hx117_1, hx117_2⟩ := at_T24 HR0.out x5_1 p117 q117
                cases e117
                replace p117 := eq_true p117
                replace q117 := eq_true q117
                have p118 : 0 ≤ (x5_1 : Int) := of_decide_eq_true (by first | (with_reducible assumption) | assumption)
                have q118 : x5_1 < (l0.length : Int) := of_decide_eq_true (by first | (with_reducible assumption) | assumption)
                obtain ⟨ad118, e118, hx118_0, hx118_1, hx118_2⟩ := at_T24 HR0.out x5_1 p118 q118
                obtain rfl : ad117 = ad118 := (by injection e118)
                replace p118 := eq_true p118
                replace q118 := eq_true q118
                have p119 : 0 ≤ (x5_1 : Int) := of_decide_eq_true (by first | (with_reducible assumption) | assumption)
                have q119 : x5_1 < (l0.length : Int) := of_decide_eq_true (by first | (with_reducible assumption) | assumption)
                obtain ⟨ad119, e119, hx119_0, hx119_1, hx119_2⟩ := at_T24 HR0.out x5_1 p119 q119
                obtain rfl : ad117 = ad119 := (by injection e119)
                replace p119 := eq_true p119
                replace q119 := eq_true q119
                go_wp2
                go_roundg k1
                case measure => have := HK1.out; omega
                case rel => exact ⟨(wrap64 ((wrap64 ((wrap64 (x1_1 + 1)) + 1)) + 1)), (wrap64 (x5_1 + 1)), (by first | rfl | (simp; done) | (simp [*]; done)), (by first | rfl | (simp; done) | (simp [*]; done)), H', ⟨by have := HK1.out; omega⟩, by repeat (first | exact Drawn0.refl _ | apply Drawn0.step)⟩
              · rw [if_neg c7] at H
                have c7b0 : (((rd_T24 l0 x5_1).f2) == (wrap64 ((wrap64 (x1_1 + 1)) + 1))) = false := beq_eq_false_iff_ne.mpr c7
                have c7b1 : (((rd_T24 l0 x5_1).f2) != (wrap64 ((wrap64 (x1_1 + 1)) + 1))) = true := bne_iff_ne.mpr c7
                obtain rfl := Option.some.inj H
                have p117 : 0 ≤ (x5_1 : Int) := of_decide_eq_true (by first | (with_reducible assumption) | assumption)
                have q117 : x5_1 < (l0.length : Int) := of_decide_eq_true (by first | (with_reducible assumption) | assumption)
                obtain ⟨ad117, e117, hx117_0, hx117_1, hx117_2⟩ := at_T24 HR0.out x5_1 p117 q117
                cases e117
                replace p117 := eq_true p117
                replace q117 := eq_true q117
                have p118 : 0 ≤ (x5_1 : Int) := of_decide_eq_true (by first | (with_reducible assumption) | assumption)
                have q118 : x5_1 < (l0.length : Int) := of_decide_eq_true (by first | (with_reducible assumption) | assumption)
                obtain ⟨ad118, e118, hx118_0, hx118_1, hx118_2⟩ := at_T24 HR0.out x5_1 p118 q118
                obtain rfl : ad117 = ad118 := (by injection e118)
                replace p118 := eq_true p118
                replace q118 := eq_true q118
                have p119 : 0 ≤ (x5_1 : Int) := of_decide_eq_true (by first | (with_reducible assumption) | assumption)
                have q119 : x5_1 < (l0.length : Int) := of_decide_eq_true (by first | (with_reducible assumption) | assumption)
                obtain ⟨ad119, e119, hx119_0, hx119_1, hx119_2⟩ := at_T24 HR0.out x5_1 p119 q119
                obtain rfl : ad117 = ad119 := (by injection e119)
                replace p119 := eq_true p119
                replace q119 := eq_true q119
                go_wp2
                go_ret
                exact ⟨by first | rfl | (simp; done) | (simp [*]; done), by repeat (first | exact Drawn0.refl _ | apply Drawn0.step)⟩
            · rw [if_neg c6] at H
              have c6b0 : (((rd_T24 l0 x5_1).f1) == (wrap64 (x1_1 + 1))) = false := beq_eq_false_iff_ne.mpr c6
              have c6b1 : (((rd_T24 l0 x5_1).f1) != (wrap64 (x1_1 + 1))) = true := bne_iff_ne.mpr c6
              obtain rfl := Option.some.inj H
              have p117 : 0 ≤ (x5_1 : Int) := of_decide_eq_true (by first | (with_reducible assumption) | assumption)
              have q117 : x5_1 < (l0.length : Int) := of_decide_eq_true (by first | (with_reducible assumption) | assumption)
              obtain ⟨ad117, e117, hx117_0, hx117_1, hx117_2⟩ := at_T24 HR0.out x5_1 p117 q117
              cases e117
              replace p117 := eq_true p117
              replace q117 := eq_true q117
              have p118 : 0 ≤ (x5_1 : Int) := of_decide_eq_true (by first | (with_reducible assumption) | assumption)
              have q118 : x5_1 < (l0.length : Int) := of_decide_eq_true (by first | (with_reducible assumption) | assumption)
              obtain ⟨ad118, e118, hx118_0, hx118_1, hx118_2⟩ := at_T24 HR0.out x5_1 p118 q118
              obtain rfl : ad117 = ad118 := (by injection e118)
              replace p118 := eq_true p118
              replace q118 := eq_true q118
              go_wp2
              go_ret
              exact ⟨by first | rfl | (simp; done) | (simp [*]; done), by repeat (first | exact Drawn0.refl _ | apply Drawn0.step)⟩
          · rw [if_neg c5] at H
            have c5b0 : (((rd_T24 l0 x5_1).f0) == x1_1) = false := beq_eq_false_iff_ne.mpr c5
            have c5b1 : (((rd_T24 l0 x5_1).f0) != x1_1) = true := bne_iff_ne.mpr c5
            obtain rfl := Option.some.inj H
            have p117 : 0 ≤ (x5_1 : Int) := of_decide_eq_true (by first | (with_reducible assumption) | assumption)
            have q117 : x5_1 < (l0.length : Int) := of_decide_eq_true (by first | (with_reducible assumption) | assumption)
            obtain ⟨ad117, e117, hx117_0, hx117_1, hx117_2⟩ := at_T24 HR0.out x5_1 p117 q117
            cases e117
            replace p117 := eq_true p117
            replace q117 := eq_true q117
            go_wp2
            go_ret
            exact ⟨by first | rfl | (simp; done) | (simp [*]; done), by repeat (first | exact Drawn0.refl _ | apply Drawn0.step)⟩
        · rw [if_neg c4] at H
          exact absurd H (by simp)
      · rw [if_neg c3] at H
        have c3b0 : decide (x5_1 < (l0.length : Int)) = false := decide_eq_false c3
        clear c3
        obtain rfl := Option.some.inj H
        go_wp2
        go_ret
        exact ⟨by first | rfl | (simp; done) | (simp [*]; done), by repeat (first | exact Drawn0.refl _ | apply Drawn0.step)⟩

/-! ### impl_within: function 38 -/
def impl_within.f (a0 : Int) (a1 : Int) (a2 : Int) : Option (Bool) := if a0 ≥ a1 then (some (decide (a0 ≤ a2))) else (some false)
set_option maxHeartbeats 8000000 in
set_option maxRecDepth 100000 in
theorem impl_within.calls (a0 : Int) (a1 : Int) (a2 : Int) (r : Bool) (w : World) (h : impl_within.f a0 a1 a2 = some r) :
    Calls Try.prog 38 #[.int .i64 a0, .int .i64 a1, .int .i64 a2] w fun e w' => e = .returned (.bool r) ∧ Drawn0 w w' := by
  have H : (if a0 ≥ a1 then (some (decide (a0 ≤ a2))) else (some false)) = some r := h
  clear h
  by_cases c4 : a0 ≥ a1
  · rw [if_pos c4] at H
    have c4b0 : decide (a1 ≤ a0) = true := decide_eq_true c4
    clear c4
    obtain rfl := Option.some.inj H
    go_enter Try.func38, Try.ntmps38
    go_wp2
    go_ret
    exact ⟨by first | rfl | (simp; done) | (simp [*]; done), by repeat (first | exact Drawn0.refl _ | apply Drawn0.step)⟩
  · rw [if_neg c4] at H
    have c4b0 : decide (a1 ≤ a0) = false := decide_eq_false c4
    clear c4
    obtain rfl := Option.some.inj H
    go_enter Try.func38, Try.ntmps38
    go_wp2
    go_ret
    exact ⟨by first | rfl | (simp; done) | (simp [*]; done), by repeat (first | exact Drawn0.refl _ | apply Drawn0.step)⟩

/-! ### impl_hasX: function 39 -/
def impl_hasX.f (a0 : Int) : Option (Bool) := (impl_within.f a0 1 3).bind fun t120 => (some t120)
set_option maxHeartbeats 8000000 in
set_option maxRecDepth 100000 in
theorem impl_hasX.calls (a0 : Int) (r : Bool) (w : World) (h : impl_hasX.f a0 = some r) :
    Calls Try.prog 39 #[.int .i64 a0] w fun e w' => e = .returned (.bool r) ∧ Drawn0 w w' := by
  have H : ((impl_within.f a0 1 3).bind fun t120 => (some t120)) = some r := h
  clear h
  replace H := Option.bind_eq_some_iff.mp H
  obtain ⟨t120, A20, H⟩ := H
  replace H : (some t120) = some r := H
  have A2 := Aside0.mk A20
  clear A20
  obtain rfl := Option.some.inj H
  go_enter Try.func39, Try.ntmps39
  go_wp2_with (first | ((with_reducible refine gate_callee (f := 38) rfl ?_); refine goesL_ (some 4) rfl rfl Try.func38 (by kernel_rfl) rfl #[.int .i64 a0, .int .i64 1, .int .i64 3] rfl (by (try simp only [List.map_toArray, List.map_cons, List.map_nil]); first | done | rfl | (simp only [List.length_drop, List.length_take]; rfl)) ?_; (with_reducible refine (impl_within.calls a0 1 3 t120 _ A2.out).mono ?_); rintro e w' ⟨rfl, ⟨nd, rfl⟩⟩; refine ⟨_, rfl, ?_⟩))
  go_ret
  exact ⟨by first | rfl | (simp; done) | (simp [*]; done), by repeat (first | exact Drawn0.refl _ | apply Drawn0.step)⟩

/-! ### impl_isWorker: function 58 -/
def impl_isWorker.f (a0 : Int) : Option (Bool) := (impl_within.f a0 0 4).bind fun t121 => (some t121)
set_option maxHeartbeats 8000000 in
set_option maxRecDepth 100000 in
theorem impl_isWorker.calls (a0 : Int) (r : Bool) (w : World) (h : impl_isWorker.f a0 = some r) :
    Calls Try.prog 58 #[.int .i64 a0] w fun e w' => e = .returned (.bool r) ∧ Drawn0 w w' := by
  have H : ((impl_within.f a0 0 4).bind fun t121 => (some t121)) = some r := h
  clear h
  replace H := Option.bind_eq_some_iff.mp H
  obtain ⟨t121, A20, H⟩ := H
  replace H : (some t121) = some r := H
  have A2 := Aside0.mk A20
  clear A20
  obtain rfl := Option.some.inj H
  go_enter Try.func58, Try.ntmps58
  go_wp2_with (first | ((with_reducible refine gate_callee (f := 38) rfl ?_); refine goesL_ (some 4) rfl rfl Try.func38 (by kernel_rfl) rfl #[.int .i64 a0, .int .i64 0, .int .i64 4] rfl (by (try simp only [List.map_toArray, List.map_cons, List.map_nil]); first | done | rfl | (simp only [List.length_drop, List.length_take]; rfl)) ?_; (with_reducible refine (impl_within.calls a0 0 4 t121 _ A2.out).mono ?_); rintro e w' ⟨rfl, ⟨nd, rfl⟩⟩; refine ⟨_, rfl, ?_⟩))
  go_ret
  exact ⟨by first | rfl | (simp; done) | (simp [*]; done), by repeat (first | exact Drawn0.refl _ | apply Drawn0.step)⟩

/-! ### impl_OpOk: function 40 -/
def impl_OpOk.j0 : Nat → Bool → Int → Int → Int → Option (Bool)
  | 0, _, _, _, _ => none
  | k + 1, x22, x123000, x123001, x123002 => if x22 = true then (some false) else ((impl_hasX.f x123000).bind fun t125 => (if t125 = true then ((impl_within.f x123002 1 60).bind fun t126 => (some t126)) else (some (x123002 == 0))))
def impl_OpOk.f (k : Nat) (a0_0 : Int) (a0_1 : Int) (a0_2 : Int) : Option (Bool) := (impl_within.f a0_0 0 6).bind fun t123 => (if t123 = true then ((impl_isWorker.f a0_1).bind fun t124 => (if t124 = true then (if a0_0 = 0 then (impl_OpOk.j0 k (a0_1 != 0) a0_0 a0_1 a0_2) else (impl_OpOk.j0 k false a0_0 a0_1 a0_2)) else (impl_OpOk.j0 k true a0_0 a0_1 a0_2))) else (impl_OpOk.j0 k true a0_0 a0_1 a0_2))
theorem impl_OpOk.mono_l : ∀ k, (∀ y0 y1 y2 y3, LeO (impl_OpOk.j0 k y0 y1 y2 y3) (impl_OpOk.j0 (k + 1) y0 y1 y2 y3))
  | 0 => fun _ _ _ _ r h => by simp [impl_OpOk.j0] at h
  | k + 1 => by
    have ih0 := impl_OpOk.mono_l k
    · intro y0 y1 y2 y3
      unfold impl_OpOk.j0
      repeat' first
      | (with_reducible exact ih0 _ _ _ _)
      | (with_reducible exact LeO.refl _)
      | (with_reducible exact LeO.none _)
      | (with_reducible refine LeO.ite ?_ ?_)
      | (with_reducible refine LeO.bind ?_ (fun _ => ?_))
      | exact ih0 _ _ _ _
      | exact LeO.none _
      | refine LeO.ite ?_ ?_
      | refine LeO.bind ?_ (fun _ => ?_)
theorem impl_OpOk.mono : ∀ a0 a1 a2 k, LeO (impl_OpOk.f k a0 a1 a2) (impl_OpOk.f (k + 1) a0 a1 a2) := by
  intro a0 a1 a2 k
  have ih0 := impl_OpOk.mono_l k
  unfold impl_OpOk.f
  repeat' first
      | (with_reducible exact ih0 _ _ _ _)
      | (with_reducible exact LeO.refl _)
      | (with_reducible exact LeO.none _)
      | (with_reducible refine LeO.ite ?_ ?_)
      | (with_reducible refine LeO.bind ?_ (fun _ => ?_))
      | exact ih0 _ _ _ _
      | exact LeO.none _
      | refine LeO.ite ?_ ?_
      | refine LeO.bind ?_ (fun _ => ?_)
set_option maxHeartbeats 8000000 in
set_option maxRecDepth 100000 in
theorem impl_OpOk.calls (k : Nat) (a0_0 : Int) (a0_1 : Int) (a0_2 : Int) (r : Bool) (w : World) (h : impl_OpOk.f k a0_0 a0_1 a0_2 = some r) :
    Calls Try.prog 40 #[.agg #[.int .i64 a0_0, .int .i64 a0_1, .int .i64 a0_2]] w fun e w' => e = .returned (.bool r) ∧ Below w.heap.size w w' := by
  have hu24 := Try.underlying24
  have HB := Aside0.mk (Below.refl w.heap.size w)
  have H : ((impl_within.f a0_0 0 6).bind fun t123 => (if t123 = true then ((impl_isWorker.f a0_1).bind fun t124 => (if t124 = true then (if a0_0 = 0 then (impl_OpOk.j0 k (a0_1 != 0) a0_0 a0_1 a0_2) else (impl_OpOk.j0 k false a0_0 a0_1 a0_2)) else (impl_OpOk.j0 k true a0_0 a0_1 a0_2))) else (impl_OpOk.j0 k true a0_0 a0_1 a0_2))) = some r := h
  clear h
  have HC2 := Aside0.mk H
  clear H
  go_enter Try.func40, Try.ntmps40
  go_upto_region 1 with (first | ((with_reducible refine gate_dst (N := 1) rfl ?_); refine box_event ?hg (N := 1) ?hd (cs := #[.int .i64 a0_0, .int .i64 a0_1, .int .i64 a0_2]) (t := 24) ?hr ?_; (case hd => rfl); (case hg => rfl); (case hr => first | (go_simp; done) | (go_simp; rfl)); intro gb122 hg w3 hbox hb; have n0_ := Aside0.mk (below_step (by repeat (first | (with_reducible first | exact HB.out | apply below_alloc | apply pw_below_drewN | apply below_drew1) | exact HB.out)) hb); have n1_ := Aside0.mk (hbox); have n2_ := Aside0.mk ((by rw [hg]; exact (below_size (by repeat (first | (with_reducible first | exact HB.out | apply below_alloc | apply pw_below_drewN | apply below_drew1) | exact HB.out))) : w.heap.size ≤ gb122)); have n3_ := Aside0.mk ((by rw [hg]; exact (below_size (by repeat (first | (with_reducible first | exact HB.out | apply below_alloc | apply pw_below_drewN | apply below_drew1) | exact HB.out))) : w.heap.size ≤ gb122)); clear HB; have HB := n0_; have BK122 := n1_; have GW122 := n2_; have GE122 := n3_; clear n0_ n1_ n2_ n3_; clear hb hbox hg))
  (try simp only [Act.put, List.setIfInBounds_toArray, List.set_cons_zero, List.set_cons_succ])
  go_cut [22] (fun v22 wc => ∃ (kq : Nat) (x22_1 : Bool), v22 = .bool x22_1 ∧ Aside0 (impl_OpOk.j0 kq x22_1 a0_0 a0_1 a0_2 = some r) ∧ Aside0 (kq ≤ k) ∧ Aside0 (wc.heap[gb122]? = some (.cells #[.int .i64 a0_0, .int .i64 a0_1, .int .i64 a0_2] 24 (0, 0))) ∧ Aside0 (Below w.heap.size w wc))
  case first =>
    have H := HC2.out
    clear HC2
    replace H := Option.bind_eq_some_iff.mp H
    obtain ⟨t123, A40, H⟩ := H
    replace H : (if t123 = true then ((impl_isWorker.f a0_1).bind fun t124 => (if t124 = true then (if a0_0 = 0 then (impl_OpOk.j0 k (a0_1 != 0) a0_0 a0_1 a0_2) else (impl_OpOk.j0 k false a0_0 a0_1 a0_2)) else (impl_OpOk.j0 k true a0_0 a0_1 a0_2))) else (impl_OpOk.j0 k true a0_0 a0_1 a0_2)) = some r := H
    have A4 := Aside0.mk A40
    clear A40
    by_cases c5 : t123 = true
    · subst c5
      have H1 : ((impl_isWorker.f a0_1).bind fun t124 => (if t124 = true then (if a0_0 = 0 then (impl_OpOk.j0 k (a0_1 != 0) a0_0 a0_1 a0_2) else (impl_OpOk.j0 k false a0_0 a0_1 a0_2)) else (impl_OpOk.j0 k true a0_0 a0_1 a0_2))) = some r := by rw [if_pos rfl] at H; exact H
      clear H
      have H := H1
      clear H1
      replace H := Option.bind_eq_some_iff.mp H
      obtain ⟨t124, A60, H⟩ := H
      replace H : (if t124 = true then (if a0_0 = 0 then (impl_OpOk.j0 k (a0_1 != 0) a0_0 a0_1 a0_2) else (impl_OpOk.j0 k false a0_0 a0_1 a0_2)) else (impl_OpOk.j0 k true a0_0 a0_1 a0_2)) = some r := H
      have A6 := Aside0.mk A60
      clear A60
      by_cases c7 : t124 = true
      · subst c7
        have H1 : (if a0_0 = 0 then (impl_OpOk.j0 k (a0_1 != 0) a0_0 a0_1 a0_2) else (impl_OpOk.j0 k false a0_0 a0_1 a0_2)) = some r := by rw [if_pos rfl] at H; exact H
        clear H
        have H := H1
        clear H1
        by_cases c8 : a0_0 = 0
        · rw [if_pos c8] at H
          have c8b0 : (a0_0 == 0) = true := beq_iff_eq.mpr c8
          have c8b1 : (a0_0 != 0) = false := bne_eq_false_iff_eq.mpr c8
          clear c8
          (first | rw [c8b0] | (simp only [i64_w, i32_w]; rw [c8b0]) | skip)
          have H' := Aside0.mk H
          clear H
          have hcz9_0 : w3.cell? ⟨gb122, 0, none⟩ = some (.int .i64 a0_0) := (blk_cell BK122.out 0).trans rfl
          have hcz9_1 : w3.cell? ⟨gb122, 1, none⟩ = some (.int .i64 a0_1) := (blk_cell BK122.out 1).trans rfl
          have hcz9_2 : w3.cell? ⟨gb122, 2, none⟩ = some (.int .i64 a0_2) := (blk_cell BK122.out 2).trans rfl
          have hfz9_0 := blk_frozen BK122.out 0
          have hfz9_1 := blk_frozen BK122.out 1
          have hfz9_2 := blk_frozen BK122.out 2
          go_wp2_with (first | ((with_reducible refine gate_callee (f := 38) rfl ?_); refine goesL_ (some 5) rfl rfl Try.func38 (by kernel_rfl) rfl #[.int .i64 a0_0, .int .i64 0, .int .i64 6] rfl (by (try simp only [List.map_toArray, List.map_cons, List.map_nil]); first | done | rfl | (simp only [List.length_drop, List.length_take]; rfl)) ?_; (with_reducible refine (impl_within.calls a0_0 0 6 true _ A4.out).mono ?_); rintro e w' ⟨rfl, ⟨nd, rfl⟩⟩; refine ⟨_, rfl, ?_⟩) | (go_at_call 58; (with_reducible refine (impl_isWorker.calls a0_1 true _ A6.out).mono ?_); rintro e w' ⟨rfl, ⟨nd, rfl⟩⟩))
          go_meet
          case rel => exact ⟨_, ((a0_1 != 0)), (by first | rfl | (simp; done) | (simp [*]; done)), H', ⟨by first | omega | exact Nat.le_refl _⟩, ⟨by (with_reducible repeat (first | refine blk_drewN ?_ _ | refine blk_drew ?_ | refine blk_alloc ?_ _)); exact BK122.out⟩, ⟨by repeat (first | (with_reducible first | exact HB.out | apply below_alloc | apply pw_below_drewN | apply below_drew1 | refine below_set ?_ GE122.out) | exact HB.out)⟩⟩
        · rw [if_neg c8] at H
          have c8b0 : (a0_0 == 0) = false := beq_eq_false_iff_ne.mpr c8
          have c8b1 : (a0_0 != 0) = true := bne_iff_ne.mpr c8
          (first | rw [c8b0] | (simp only [i64_w, i32_w]; rw [c8b0]) | skip)
          have H' := Aside0.mk H
          clear H
          have hcz10_0 : w3.cell? ⟨gb122, 0, none⟩ = some (.int .i64 a0_0) := (blk_cell BK122.out 0).trans rfl
          have hcz10_1 : w3.cell? ⟨gb122, 1, none⟩ = some (.int .i64 a0_1) := (blk_cell BK122.out 1).trans rfl
          have hcz10_2 : w3.cell? ⟨gb122, 2, none⟩ = some (.int .i64 a0_2) := (blk_cell BK122.out 2).trans rfl
          have hfz10_0 := blk_frozen BK122.out 0
          have hfz10_1 := blk_frozen BK122.out 1
          have hfz10_2 := blk_frozen BK122.out 2
          go_wp2_with (first | ((with_reducible refine gate_callee (f := 38) rfl ?_); refine goesL_ (some 5) rfl rfl Try.func38 (by kernel_rfl) rfl #[.int .i64 a0_0, .int .i64 0, .int .i64 6] rfl (by (try simp only [List.map_toArray, List.map_cons, List.map_nil]); first | done | rfl | (simp only [List.length_drop, List.length_take]; rfl)) ?_; (with_reducible refine (impl_within.calls a0_0 0 6 true _ A4.out).mono ?_); rintro e w' ⟨rfl, ⟨nd, rfl⟩⟩; refine ⟨_, rfl, ?_⟩) | (go_at_call 58; (with_reducible refine (impl_isWorker.calls a0_1 true _ A6.out).mono ?_); rintro e w' ⟨rfl, ⟨nd, rfl⟩⟩))
          go_meet
          case rel => exact ⟨_, (false), (by first | rfl | (simp; done) | (simp [*]; done)), H', ⟨by first | omega | exact Nat.le_refl _⟩, ⟨by (with_reducible repeat (first | refine blk_drewN ?_ _ | refine blk_drew ?_ | refine blk_alloc ?_ _)); exact BK122.out⟩, ⟨by repeat (first | (with_reducible first | exact HB.out | apply below_alloc | apply pw_below_drewN | apply below_drew1 | refine below_set ?_ GE122.out) | exact HB.out)⟩⟩
      · replace c7 := Bool.eq_false_iff.mpr c7
        subst c7
        have H1 : (impl_OpOk.j0 k true a0_0 a0_1 a0_2) = some r := by rw [if_neg (show ¬ (false = true) by decide)] at H; exact H
        clear H
        have H := H1
        clear H1
        have H' := Aside0.mk H
        clear H
        have hcz11_0 : w3.cell? ⟨gb122, 0, none⟩ = some (.int .i64 a0_0) := (blk_cell BK122.out 0).trans rfl
        have hcz11_1 : w3.cell? ⟨gb122, 1, none⟩ = some (.int .i64 a0_1) := (blk_cell BK122.out 1).trans rfl
        have hcz11_2 : w3.cell? ⟨gb122, 2, none⟩ = some (.int .i64 a0_2) := (blk_cell BK122.out 2).trans rfl
        have hfz11_0 := blk_frozen BK122.out 0
        have hfz11_1 := blk_frozen BK122.out 1
        have hfz11_2 := blk_frozen BK122.out 2
        go_wp2_with (first | ((with_reducible refine gate_callee (f := 38) rfl ?_); refine goesL_ (some 5) rfl rfl Try.func38 (by kernel_rfl) rfl #[.int .i64 a0_0, .int .i64 0, .int .i64 6] rfl (by (try simp only [List.map_toArray, List.map_cons, List.map_nil]); first | done | rfl | (simp only [List.length_drop, List.length_take]; rfl)) ?_; (with_reducible refine (impl_within.calls a0_0 0 6 true _ A4.out).mono ?_); rintro e w' ⟨rfl, ⟨nd, rfl⟩⟩; refine ⟨_, rfl, ?_⟩) | (go_at_call 58; (with_reducible refine (impl_isWorker.calls a0_1 false _ A6.out).mono ?_); rintro e w' ⟨rfl, ⟨nd, rfl⟩⟩))
        go_meet
        case rel => exact ⟨_, (true), (by first | rfl | (simp; done) | (simp [*]; done)), H', ⟨by first | omega | exact Nat.le_refl _⟩, ⟨by (with_reducible repeat (first | refine blk_drewN ?_ _ | refine blk_drew ?_ | refine blk_alloc ?_ _)); exact BK122.out⟩, ⟨by repeat (first | (with_reducible first | exact HB.out | apply below_alloc | apply pw_below_drewN | apply below_drew1 | refine below_set ?_ GE122.out) | exact HB.out)⟩⟩
    · replace c5 := Bool.eq_false_iff.mpr c5
      subst c5
      have H1 : (impl_OpOk.j0 k true a0_0 a0_1 a0_2) = some r := by rw [if_neg (show ¬ (false = true) by decide)] at H; exact H
      clear H
      have H := H1
      clear H1
      have H' := Aside0.mk H
      clear H
      have hcz12_0 : w3.cell? ⟨gb122, 0, none⟩ = some (.int .i64 a0_0) := (blk_cell BK122.out 0).trans rfl
      have hcz12_1 : w3.cell? ⟨gb122, 1, none⟩ = some (.int .i64 a0_1) := (blk_cell BK122.out 1).trans rfl
      have hcz12_2 : w3.cell? ⟨gb122, 2, none⟩ = some (.int .i64 a0_2) := (blk_cell BK122.out 2).trans rfl
      have hfz12_0 := blk_frozen BK122.out 0
      have hfz12_1 := blk_frozen BK122.out 1
      have hfz12_2 := blk_frozen BK122.out 2
      go_wp2_with (first | ((with_reducible refine gate_callee (f := 38) rfl ?_); refine goesL_ (some 5) rfl rfl Try.func38 (by kernel_rfl) rfl #[.int .i64 a0_0, .int .i64 0, .int .i64 6] rfl (by (try simp only [List.map_toArray, List.map_cons, List.map_nil]); first | done | rfl | (simp only [List.length_drop, List.length_take]; rfl)) ?_; (with_reducible refine (impl_within.calls a0_0 0 6 false _ A4.out).mono ?_); rintro e w' ⟨rfl, ⟨nd, rfl⟩⟩; refine ⟨_, rfl, ?_⟩))
      go_meet
      case rel => exact ⟨_, (true), (by first | rfl | (simp; done) | (simp [*]; done)), H', ⟨by first | omega | exact Nat.le_refl _⟩, ⟨by (with_reducible repeat (first | refine blk_drewN ?_ _ | refine blk_drew ?_ | refine blk_alloc ?_ _)); exact BK122.out⟩, ⟨by repeat (first | (with_reducible first | exact HB.out | apply below_alloc | apply pw_below_drewN | apply below_drew1 | refine below_set ?_ GE122.out) | exact HB.out)⟩⟩
  case rest =>
    clear HC2
    try clear p2
    try clear c3
    try clear c4
    try clear c5
    try clear c7
    try clear c8
    try clear c8b0
    try clear c8b1
    try clear hcz10_0
    try clear hcz10_1
    try clear hcz10_2
    try clear hcz11_0
    try clear hcz11_1
    try clear hcz11_2
    try clear hcz12_0
    try clear hcz12_1
    try clear hcz12_2
    try clear hcz9_0
    try clear hcz9_1
    try clear hcz9_2
    try clear hfz10_0
    try clear hfz10_1
    try clear hfz10_2
    try clear hfz11_0
    try clear hfz11_1
    try clear hfz11_2
    try clear hfz12_0
    try clear hfz12_1
    try clear hfz12_2
    try clear hfz9_0
    try clear hfz9_1
    try clear hfz9_2
    obtain ⟨kq, x22_1, rfl, HA, HJ1, BK122, HB⟩ := hcut
    cases kq with
    | zero => exact absurd HA.out (by simp [impl_OpOk.j0])
    | succ kj1 =>
      have H := HA.out
      clear HA
      simp only [impl_OpOk.j0] at H
      by_cases c13 : x22_1 = true
      · subst c13
        have H1 : (some false) = some r := by rw [if_pos rfl] at H; exact H
        clear H
        have H := H1
        clear H1
        obtain rfl := Option.some.inj H
        go_wp2
        go_ret
        exact ⟨by first | rfl | (simp [errW_none, errW_some] <;> rfl) | (simp [*, errW_none, errW_some] <;> rfl), by repeat (first | (with_reducible first | exact HB.out | apply below_alloc | apply pw_below_drewN | apply below_drew1 | refine below_set ?_ GE122.out) | exact HB.out)⟩
      · replace c13 := Bool.eq_false_iff.mpr c13
        subst c13
        have H1 : ((impl_hasX.f a0_0).bind fun t125 => (if t125 = true then ((impl_within.f a0_2 1 60).bind fun t126 => (some t126)) else (some (a0_2 == 0)))) = some r := by rw [if_neg (show ¬ (false = true) by decide)] at H; exact H
        clear H
        have H := H1
        clear H1
        replace H := Option.bind_eq_some_iff.mp H
        obtain ⟨t125, A140, H⟩ := H
        replace H : (if t125 = true then ((impl_within.f a0_2 1 60).bind fun t126 => (some t126)) else (some (a0_2 == 0))) = some r := H
        have A14 := Aside0.mk A140
        clear A140
        by_cases c15 : t125 = true
        · subst c15
          have H1 : ((impl_within.f a0_2 1 60).bind fun t126 => (some t126)) = some r := by rw [if_pos rfl] at H; exact H
          clear H
          have H := H1
          clear H1
          replace H := Option.bind_eq_some_iff.mp H
          obtain ⟨t126, A160, H⟩ := H
          replace H : (some t126) = some r := H
          have A16 := Aside0.mk A160
          clear A160
          obtain rfl := Option.some.inj H
          have hcz17_0 : wc.cell? ⟨gb122, 0, none⟩ = some (.int .i64 a0_0) := (blk_cell BK122.out 0).trans rfl
          have hcz17_1 : wc.cell? ⟨gb122, 1, none⟩ = some (.int .i64 a0_1) := (blk_cell BK122.out 1).trans rfl
          have hcz17_2 : wc.cell? ⟨gb122, 2, none⟩ = some (.int .i64 a0_2) := (blk_cell BK122.out 2).trans rfl
          have hfz17_0 := blk_frozen BK122.out 0
          have hfz17_1 := blk_frozen BK122.out 1
          have hfz17_2 := blk_frozen BK122.out 2
          go_wp2_with (first | ((with_reducible refine gate_callee (f := 39) rfl ?_); refine goesL_ (some 25) rfl rfl Try.func39 (by kernel_rfl) rfl #[.int .i64 a0_0] rfl (by (try simp only [List.map_toArray, List.map_cons, List.map_nil]); first | done | rfl | (simp only [List.length_drop, List.length_take]; rfl)) ?_; (with_reducible refine (impl_hasX.calls a0_0 true _ A14.out).mono ?_); rintro e w' ⟨rfl, ⟨nd, rfl⟩⟩; refine ⟨_, rfl, ?_⟩) | ((with_reducible refine gate_callee (f := 38) rfl ?_); refine goesL_ (some 28) rfl rfl Try.func38 (by kernel_rfl) rfl #[.int .i64 a0_2, .int .i64 1, .int .i64 60] rfl (by (try simp only [List.map_toArray, List.map_cons, List.map_nil]); first | done | rfl | (simp only [List.length_drop, List.length_take]; rfl)) ?_; (with_reducible refine (impl_within.calls a0_2 1 60 t126 _ A16.out).mono ?_); rintro e w' ⟨rfl, ⟨nd, rfl⟩⟩; refine ⟨_, rfl, ?_⟩))
          go_ret
          exact ⟨by first | rfl | (simp [errW_none, errW_some] <;> rfl) | (simp [*, errW_none, errW_some] <;> rfl), by repeat (first | (with_reducible first | exact HB.out | apply below_alloc | apply pw_below_drewN | apply below_drew1 | refine below_set ?_ GE122.out) | exact HB.out)⟩
        · replace c15 := Bool.eq_false_iff.mpr c15
          subst c15
          have H1 : (some (a0_2 == 0)) = some r := by rw [if_neg (show ¬ (false = true) by decide)] at H; exact H
          clear H
          have H := H1
          clear H1
          obtain rfl := Option.some.inj H
          have hcz18_0 : wc.cell? ⟨gb122, 0, none⟩ = some (.int .i64 a0_0) := (blk_cell BK122.out 0).trans rfl
          have hcz18_1 : wc.cell? ⟨gb122, 1, none⟩ = some (.int .i64 a0_1) := (blk_cell BK122.out 1).trans rfl
          have hcz18_2 : wc.cell? ⟨gb122, 2, none⟩ = some (.int .i64 a0_2) := (blk_cell BK122.out 2).trans rfl
          have hfz18_0 := blk_frozen BK122.out 0
          have hfz18_1 := blk_frozen BK122.out 1
          have hfz18_2 := blk_frozen BK122.out 2
          go_wp2_with (first | ((with_reducible refine gate_callee (f := 39) rfl ?_); refine goesL_ (some 25) rfl rfl Try.func39 (by kernel_rfl) rfl #[.int .i64 a0_0] rfl (by (try simp only [List.map_toArray, List.map_cons, List.map_nil]); first | done | rfl | (simp only [List.length_drop, List.length_take]; rfl)) ?_; (with_reducible refine (impl_hasX.calls a0_0 false _ A14.out).mono ?_); rintro e w' ⟨rfl, ⟨nd, rfl⟩⟩; refine ⟨_, rfl, ?_⟩))
          go_ret
          exact ⟨by first | rfl | (simp [errW_none, errW_some] <;> rfl) | (simp [*, errW_none, errW_some] <;> rfl), by repeat (first | (with_reducible first | exact HB.out | apply below_alloc | apply pw_below_drewN | apply below_drew1 | refine below_set ?_ GE122.out) | exact HB.out)⟩

/-! ### impl_UnpackOp: function 12 (by hand) -/
def opB (a t x : Int) : Bool := decide (0 ≤ a ∧ a ≤ 6 ∧ 0 ≤ t ∧ t ≤ 4 ∧ (a = 0 → t = 0) ∧ (if 1 ≤ a ∧ a ≤ 3 then 1 ≤ x ∧ x ≤ 60 else x = 0))
/-- The operation whose encoding begins at a, and the index behind it; zeros and -1 where there is none. -/
def unpack (l : List Int) (a : Int) : Int × Int × Int × Int :=
  if a < 0 then (0, 0, 0, -1) else if (l.length : Int) ≤ a then (0, 0, 0, -1) else
  if 1 ≤ wrap64 (Int.tdiv (wrap64 (rd l a)) 5) ∧ wrap64 (Int.tdiv (wrap64 (rd l a)) 5) ≤ 3 then
    (if a + 1 < (l.length : Int) then
      (if opB (wrap64 (Int.tdiv (wrap64 (rd l a)) 5)) (Int.tmod (wrap64 (rd l a)) 5) (wrap64 (rd l (a + 1))) = true then (wrap64 (Int.tdiv (wrap64 (rd l a)) 5), Int.tmod (wrap64 (rd l a)) 5, wrap64 (rd l (a + 1)), a + 1 + 1) else (0, 0, 0, -1))
    else (0, 0, 0, -1))
  else if opB (wrap64 (Int.tdiv (wrap64 (rd l a)) 5)) (Int.tmod (wrap64 (rd l a)) 5) 0 = true then (wrap64 (Int.tdiv (wrap64 (rd l a)) 5), Int.tmod (wrap64 (rd l a)) 5, 0, a + 1) else (0, 0, 0, -1)

theorem within_tells (a b c : Int) : impl_within.f a b c = some (decide (b ≤ a ∧ a ≤ c)) := by
  unfold impl_within.f
  by_cases h : b ≤ a <;> simp [h]
theorem implHasX_tells (a : Int) : impl_hasX.f a = some (decide (1 ≤ a ∧ a ≤ 3)) := by unfold impl_hasX.f; rw [within_tells]; rfl
theorem implWorker_tells (a : Int) : impl_isWorker.f a = some (decide (0 ≤ a ∧ a ≤ 4)) := by unfold impl_isWorker.f; rw [within_tells]; rfl
theorem implOpOk_tells (k : Nat) (hk : 0 < k) (a t x : Int) : impl_OpOk.f k a t x = some (opB a t x) := by
  obtain ⟨k, rfl⟩ : ∃ m, k = m + 1 := ⟨k - 1, by omega⟩
  unfold impl_OpOk.f
  simp only [within_tells, implHasX_tells, implWorker_tells, Option.bind_some, impl_OpOk.j0, opB]
  simp only [decide_eq_true_eq, reduceIte, Bool.false_eq_true, bne_iff_ne, ne_eq]
  (repeat' split) <;> first | (simp only [Option.some.injEq, decide_eq_decide]; omega) | (symm; simp only [Option.some.injEq, decide_eq_false_iff_not]; omega) | (simp_all; done) | (simp_all; omega) | (rw [Option.some.injEq, eq_comm, Bool.eq_iff_iff]; simp; omega)

set_option maxHeartbeats 8000000 in
set_option maxRecDepth 100000 in
theorem impl_UnpackOp.u_low (A0 : Option Addr) (c0 : Nat) (l0 : List Int) (a1 : Int) (w : World) (hr0 : Kd.C (Kd.int .u8) w A0 l0.length l0) (hc0 : l0.length ≤ c0) (h : a1 < 0) :
    Calls Try.prog 12 #[.slice A0 l0.length c0, .int .i64 a1] w fun e w' => e = .returned (.tuple #[.agg #[.int .i64 0, .int .i64 0, .int .i64 0], .int .i64 (-1)]) ∧ Below w.heap.size w w' := by
  have hu24 := Try.underlying24
  have hl := Kd.C_max hr0
  have FX := Aside0.mk (YtimlccgpeoaigaaX.Fx.start w)
  go_enter Try.func12, Try.ntmps12
  go_wp2_with (first | ((with_reducible refine gate_dst (N := 4) rfl ?_); refine box_event ?hg (N := 4) ?hd (cs := #[.int .i64 0, .int .i64 0, .int .i64 0]) (t := 24) ?hr ?_; (case hd => rfl); (case hg => rfl); (case hr => first | (go_simp; done) | (go_simp; rfl)); intro g4 e3 w2 k4 b5; have FX1 := Aside0.mk (FX.out.alloc e3 k4 b5); clear e3 k4 b5; clear FX; have hcg4_0 := FX1.out.cell 0 0 rfl rfl; have hfg4_0 := FX1.out.free 0 0 rfl; have hcg4_1 := FX1.out.cell 0 1 rfl rfl; have hfg4_1 := FX1.out.free 0 1 rfl; have hcg4_2 := FX1.out.cell 0 2 rfl rfl; have hfg4_2 := FX1.out.free 0 2 rfl) | (go_at_call 38; (with_reducible refine (impl_within.calls _ _ _ false _ (by rw [within_tells]; exact congrArg some (by first | exact decide_eq_true (by omega) | exact decide_eq_false (by omega)))).mono ?_); rintro e w7 ⟨rfl, b8⟩; have FX6 := Aside0.mk (FX1.out.call b8.below); clear b8; clear FX1; clear hcg4_0 hfg4_0 hcg4_1 hfg4_1 hcg4_2 hfg4_2; have hcg4_0 := FX6.out.cell 0 0 rfl rfl; have hfg4_0 := FX6.out.free 0 0 rfl; have hcg4_1 := FX6.out.cell 0 1 rfl rfl; have hfg4_1 := FX6.out.free 0 1 rfl; have hcg4_2 := FX6.out.cell 0 2 rfl rfl; have hfg4_2 := FX6.out.free 0 2 rfl) | ((with_reducible refine gate_store (t := 24) (p := 4) rfl ?_); refine store_event (t := 24) (p := 4) (v := ?vo_w10) (w1 := (((w7.setCell ⟨g4, 0, none⟩ (.int .i64 0)).setCell ⟨g4, 1, none⟩ (.int .i64 0)).setCell ⟨g4, 2, none⟩ (.int .i64 0))) ?hg ?ho ?hn ?hr ?_; (case ho => rfl); (case hg => rfl); (case hn => rfl); (case hr => first | (go_simp; done) | (go_simp; rfl)); intro w10 e11; have FX9 : Aside0 (YtimlccgpeoaigaaX.Fx w w10 [YtimlccgpeoaigaaX.blk g4 24 #[.int .i64 0, .int .i64 0, .int .i64 0]]) := ⟨by rw [e11]; exact (((FX6.out.store 0 rfl 0 (.int .i64 0) #[.int .i64 0, .int .i64 0, .int .i64 0] rfl).store 0 rfl 1 (.int .i64 0) #[.int .i64 0, .int .i64 0, .int .i64 0] rfl).store 0 rfl 2 (.int .i64 0) #[.int .i64 0, .int .i64 0, .int .i64 0] rfl)⟩; clear e11; clear FX6; clear hcg4_0 hfg4_0 hcg4_1 hfg4_1 hcg4_2 hfg4_2; have hcg4_0 := FX9.out.cell 0 0 rfl rfl; have hfg4_0 := FX9.out.free 0 0 rfl; have hcg4_1 := FX9.out.cell 0 1 rfl rfl; have hfg4_1 := FX9.out.free 0 1 rfl; have hcg4_2 := FX9.out.cell 0 2 rfl rfl; have hfg4_2 := FX9.out.free 0 2 rfl))
  exact bodyPost_ret (results_ct rfl _ _ g4 24 #[.int .i64 0, .int .i64 0, .int .i64 0] (0, 0) _ rfl (FX9.out.blkOf 0 rfl) Try.underlying24 rfl (by kernel_rfl)) rfl ⟨rfl, FX9.out.below⟩
set_option maxHeartbeats 8000000 in
set_option maxRecDepth 100000 in
theorem impl_UnpackOp.u_high (A0 : Option Addr) (c0 : Nat) (l0 : List Int) (a1 : Int) (w : World) (hr0 : Kd.C (Kd.int .u8) w A0 l0.length l0) (hc0 : l0.length ≤ c0) (h0 : 0 ≤ a1) (h : (l0.length : Int) ≤ a1) :
    Calls Try.prog 12 #[.slice A0 l0.length c0, .int .i64 a1] w fun e w' => e = .returned (.tuple #[.agg #[.int .i64 0, .int .i64 0, .int .i64 0], .int .i64 (-1)]) ∧ Below w.heap.size w w' := by
  have hu24 := Try.underlying24
  have hl := Kd.C_max hr0
  have FX := Aside0.mk (YtimlccgpeoaigaaX.Fx.start w)
  go_enter Try.func12, Try.ntmps12
  go_wp2_with (first | ((with_reducible refine gate_dst (N := 4) rfl ?_); refine box_event ?hg (N := 4) ?hd (cs := #[.int .i64 0, .int .i64 0, .int .i64 0]) (t := 24) ?hr ?_; (case hd => rfl); (case hg => rfl); (case hr => first | (go_simp; done) | (go_simp; rfl)); intro g4 e3 w2 k4 b5; have FX1 := Aside0.mk (FX.out.alloc e3 k4 b5); clear e3 k4 b5; clear FX; have hcg4_0 := FX1.out.cell 0 0 rfl rfl; have hfg4_0 := FX1.out.free 0 0 rfl; have hcg4_1 := FX1.out.cell 0 1 rfl rfl; have hfg4_1 := FX1.out.free 0 1 rfl; have hcg4_2 := FX1.out.cell 0 2 rfl rfl; have hfg4_2 := FX1.out.free 0 2 rfl) | (go_at_call 38; (with_reducible refine (impl_within.calls _ _ _ false _ (by rw [within_tells]; exact congrArg some (by first | exact decide_eq_true (by omega) | exact decide_eq_false (by omega)))).mono ?_); rintro e w7 ⟨rfl, b8⟩; have FX6 := Aside0.mk (FX1.out.call b8.below); clear b8; clear FX1; clear hcg4_0 hfg4_0 hcg4_1 hfg4_1 hcg4_2 hfg4_2; have hcg4_0 := FX6.out.cell 0 0 rfl rfl; have hfg4_0 := FX6.out.free 0 0 rfl; have hcg4_1 := FX6.out.cell 0 1 rfl rfl; have hfg4_1 := FX6.out.free 0 1 rfl; have hcg4_2 := FX6.out.cell 0 2 rfl rfl; have hfg4_2 := FX6.out.free 0 2 rfl) | ((with_reducible refine gate_store (t := 24) (p := 4) rfl ?_); refine store_event (t := 24) (p := 4) (v := ?vo_w10) (w1 := (((w7.setCell ⟨g4, 0, none⟩ (.int .i64 0)).setCell ⟨g4, 1, none⟩ (.int .i64 0)).setCell ⟨g4, 2, none⟩ (.int .i64 0))) ?hg ?ho ?hn ?hr ?_; (case ho => rfl); (case hg => rfl); (case hn => rfl); (case hr => first | (go_simp; done) | (go_simp; rfl)); intro w10 e11; have FX9 : Aside0 (YtimlccgpeoaigaaX.Fx w w10 [YtimlccgpeoaigaaX.blk g4 24 #[.int .i64 0, .int .i64 0, .int .i64 0]]) := ⟨by rw [e11]; exact (((FX6.out.store 0 rfl 0 (.int .i64 0) #[.int .i64 0, .int .i64 0, .int .i64 0] rfl).store 0 rfl 1 (.int .i64 0) #[.int .i64 0, .int .i64 0, .int .i64 0] rfl).store 0 rfl 2 (.int .i64 0) #[.int .i64 0, .int .i64 0, .int .i64 0] rfl)⟩; clear e11; clear FX6; clear hcg4_0 hfg4_0 hcg4_1 hfg4_1 hcg4_2 hfg4_2; have hcg4_0 := FX9.out.cell 0 0 rfl rfl; have hfg4_0 := FX9.out.free 0 0 rfl; have hcg4_1 := FX9.out.cell 0 1 rfl rfl; have hfg4_1 := FX9.out.free 0 1 rfl; have hcg4_2 := FX9.out.cell 0 2 rfl rfl; have hfg4_2 := FX9.out.free 0 2 rfl))
  exact bodyPost_ret (results_ct rfl _ _ g4 24 #[.int .i64 0, .int .i64 0, .int .i64 0] (0, 0) _ rfl (FX9.out.blkOf 0 rfl) Try.underlying24 rfl (by kernel_rfl)) rfl ⟨rfl, FX9.out.below⟩
set_option maxHeartbeats 8000000 in
set_option maxRecDepth 100000 in
theorem impl_UnpackOp.u_short (A0 : Option Addr) (c0 : Nat) (l0 : List Int) (a1 : Int) (w : World) (hr0 : Kd.C (Kd.int .u8) w A0 l0.length l0) (hc0 : l0.length ≤ c0) (h0 : 0 ≤ a1) (h1 : a1 < (l0.length : Int)) (hkd : decide (1 ≤ wrap64 (Int.tdiv (wrap64 (rd l0 a1)) 5) ∧ wrap64 (Int.tdiv (wrap64 (rd l0 a1)) 5) ≤ 3) = true) (h2 : ¬ a1 + 1 < (l0.length : Int)) :
    Calls Try.prog 12 #[.slice A0 l0.length c0, .int .i64 a1] w fun e w' => e = .returned (.tuple #[.agg #[.int .i64 0, .int .i64 0, .int .i64 0], .int .i64 (-1)]) ∧ Below w.heap.size w w' := by
  have hu24 := Try.underlying24
  have hl := Kd.C_max hr0
  have FX := Aside0.mk (YtimlccgpeoaigaaX.Fx.start w)
  obtain ⟨ad, e0, hx⟩ := Kd.at_int hr0 a1 h0 h1
  subst e0
  have HX := Aside0.mk hx
  clear hx
  have q3 : (a1 + 1 == (l0.length : Int)) = true := beq_iff_eq.mpr (by omega)
  go_enter Try.func12, Try.ntmps12
  go_wp2_with (first | ((with_reducible refine gate_dst (N := 4) rfl ?_); refine box_event ?hg (N := 4) ?hd (cs := #[.int .i64 0, .int .i64 0, .int .i64 0]) (t := 24) ?hr ?_; (case hd => rfl); (case hg => rfl); (case hr => first | (go_simp; done) | (go_simp; rfl)); intro g4 e3 w2 k4 b5; have FX1 := Aside0.mk (FX.out.alloc e3 k4 b5); clear e3 k4 b5; clear FX; have hcg4_0 := FX1.out.cell 0 0 rfl rfl; have hfg4_0 := FX1.out.free 0 0 rfl; have hcg4_1 := FX1.out.cell 0 1 rfl rfl; have hfg4_1 := FX1.out.free 0 1 rfl; have hcg4_2 := FX1.out.cell 0 2 rfl rfl; have hfg4_2 := FX1.out.free 0 2 rfl; have hx := FX1.out.old HX.out) | (go_at_call 38; (with_reducible refine (impl_within.calls _ _ _ true _ (by rw [within_tells]; exact congrArg some (by first | exact decide_eq_true (by omega) | exact decide_eq_false (by omega)))).mono ?_); rintro e w7 ⟨rfl, b8⟩; have FX6 := Aside0.mk (FX1.out.call b8.below); clear b8; clear FX1; clear hcg4_0 hfg4_0 hcg4_1 hfg4_1 hcg4_2 hfg4_2 hx; have hcg4_0 := FX6.out.cell 0 0 rfl rfl; have hfg4_0 := FX6.out.free 0 0 rfl; have hcg4_1 := FX6.out.cell 0 1 rfl rfl; have hfg4_1 := FX6.out.free 0 1 rfl; have hcg4_2 := FX6.out.cell 0 2 rfl rfl; have hfg4_2 := FX6.out.free 0 2 rfl; have hx := FX6.out.old HX.out; have hx2 := fun o => pw_cell_below (below_alloc (Below.refl w7.heap.size w7) o) hx))
  go_region
  clear hx2
  clear hcg4_0 hfg4_0 hcg4_1 hfg4_1 hcg4_2 hfg4_2 hx
  refine YtimlccgpeoaigaaV.gen_then (p := fun W' => ∃ g6, YtimlccgpeoaigaaX.Fx w W' [YtimlccgpeoaigaaX.blk g6 24 #[.int .i64 (wrap64 (Int.tdiv (wrap64 (rd l0 a1)) 5)), .int .i64 (Int.tmod (wrap64 (rd l0 a1)) 5), .int .i64 0], YtimlccgpeoaigaaX.blk g4 24 #[.int .i64 0, .int .i64 0, .int .i64 0]] ∧ g6 = w7.heap.size) ⟨_, (FX6.out.alloc rfl (blk_new _ _) (below_alloc (Below.refl _ _) _)).drew, rfl⟩ ?_
  rintro w6 ⟨g6, fx6, e6⟩
  rw [← e6]
  have FXR := Aside0.mk fx6
  clear fx6 e6 FX6
  have hcg6_0 := FXR.out.cell 0 0 rfl rfl
  have hfg6_0 := FXR.out.free 0 0 rfl
  have hcg6_1 := FXR.out.cell 0 1 rfl rfl
  have hfg6_1 := FXR.out.free 0 1 rfl
  have hcg6_2 := FXR.out.cell 0 2 rfl rfl
  have hfg6_2 := FXR.out.free 0 2 rfl
  have hcg4_0 := FXR.out.cell 1 0 rfl rfl
  have hfg4_0 := FXR.out.free 1 0 rfl
  have hcg4_1 := FXR.out.cell 1 1 rfl rfl
  have hfg4_1 := FXR.out.free 1 1 rfl
  have hcg4_2 := FXR.out.cell 1 2 rfl rfl
  have hfg4_2 := FXR.out.free 1 2 rfl
  have hx := FXR.out.old HX.out
  go_wp2_with (first | (go_at_call 39; (with_reducible refine (impl_hasX.calls _ true _ (by rw [implHasX_tells]; exact congrArg some hkd)).mono ?_); rintro e w10 ⟨rfl, b11⟩; have FX9 := Aside0.mk (FXR.out.call b11.below); clear b11; clear FXR; clear hcg6_0 hfg6_0 hcg6_1 hfg6_1 hcg6_2 hfg6_2 hcg4_0 hfg4_0 hcg4_1 hfg4_1 hcg4_2 hfg4_2 hx; have hcg6_0 := FX9.out.cell 0 0 rfl rfl; have hfg6_0 := FX9.out.free 0 0 rfl; have hcg6_1 := FX9.out.cell 0 1 rfl rfl; have hfg6_1 := FX9.out.free 0 1 rfl; have hcg6_2 := FX9.out.cell 0 2 rfl rfl; have hfg6_2 := FX9.out.free 0 2 rfl; have hcg4_0 := FX9.out.cell 1 0 rfl rfl; have hfg4_0 := FX9.out.free 1 0 rfl; have hcg4_1 := FX9.out.cell 1 1 rfl rfl; have hfg4_1 := FX9.out.free 1 1 rfl; have hcg4_2 := FX9.out.cell 1 2 rfl rfl; have hfg4_2 := FX9.out.free 1 2 rfl; have hx := FX9.out.old HX.out) | ((with_reducible refine gate_store (t := 24) (p := 4) rfl ?_); refine store_event (t := 24) (p := 4) (v := ?vo_w13) (w1 := (((w10.setCell ⟨g4, 0, none⟩ (.int .i64 0)).setCell ⟨g4, 1, none⟩ (.int .i64 0)).setCell ⟨g4, 2, none⟩ (.int .i64 0))) ?hg ?ho ?hn ?hr ?_; (case ho => rfl); (case hg => rfl); (case hn => rfl); (case hr => first | (go_simp; done) | (go_simp; rfl)); intro w13 e14; have FX12 : Aside0 (YtimlccgpeoaigaaX.Fx w w13 [YtimlccgpeoaigaaX.blk g6 24 #[.int .i64 (wrap64 (Int.tdiv (wrap64 (rd l0 a1)) 5)), .int .i64 (Int.tmod (wrap64 (rd l0 a1)) 5), .int .i64 0], YtimlccgpeoaigaaX.blk g4 24 #[.int .i64 0, .int .i64 0, .int .i64 0]]) := ⟨by rw [e14]; exact (((FX9.out.store 1 rfl 0 (.int .i64 0) #[.int .i64 0, .int .i64 0, .int .i64 0] rfl).store 1 rfl 1 (.int .i64 0) #[.int .i64 0, .int .i64 0, .int .i64 0] rfl).store 1 rfl 2 (.int .i64 0) #[.int .i64 0, .int .i64 0, .int .i64 0] rfl)⟩; clear e14; clear FX9; clear hcg6_0 hfg6_0 hcg6_1 hfg6_1 hcg6_2 hfg6_2 hcg4_0 hfg4_0 hcg4_1 hfg4_1 hcg4_2 hfg4_2 hx; have hcg6_0 := FX12.out.cell 0 0 rfl rfl; have hfg6_0 := FX12.out.free 0 0 rfl; have hcg6_1 := FX12.out.cell 0 1 rfl rfl; have hfg6_1 := FX12.out.free 0 1 rfl; have hcg6_2 := FX12.out.cell 0 2 rfl rfl; have hfg6_2 := FX12.out.free 0 2 rfl; have hcg4_0 := FX12.out.cell 1 0 rfl rfl; have hfg4_0 := FX12.out.free 1 0 rfl; have hcg4_1 := FX12.out.cell 1 1 rfl rfl; have hfg4_1 := FX12.out.free 1 1 rfl; have hcg4_2 := FX12.out.cell 1 2 rfl rfl; have hfg4_2 := FX12.out.free 1 2 rfl; have hx := FX12.out.old HX.out))
  exact bodyPost_ret (results_ct rfl _ _ g4 24 #[.int .i64 0, .int .i64 0, .int .i64 0] (0, 0) _ rfl (FX12.out.blkOf 1 rfl) Try.underlying24 rfl (by kernel_rfl)) rfl ⟨rfl, FX12.out.below⟩
set_option maxHeartbeats 8000000 in
set_option maxRecDepth 100000 in
theorem impl_UnpackOp.u_two_true (A0 : Option Addr) (c0 : Nat) (l0 : List Int) (a1 : Int) (w : World) (hr0 : Kd.C (Kd.int .u8) w A0 l0.length l0) (hc0 : l0.length ≤ c0) (h0 : 0 ≤ a1) (h1 : a1 < (l0.length : Int)) (hkd : decide (1 ≤ wrap64 (Int.tdiv (wrap64 (rd l0 a1)) 5) ∧ wrap64 (Int.tdiv (wrap64 (rd l0 a1)) 5) ≤ 3) = true) (h2 : a1 + 1 < (l0.length : Int)) (hok : opB (wrap64 (Int.tdiv (wrap64 (rd l0 a1)) 5)) (Int.tmod (wrap64 (rd l0 a1)) 5) (wrap64 (rd l0 (a1 + 1))) = true) :
    Calls Try.prog 12 #[.slice A0 l0.length c0, .int .i64 a1] w fun e w' => e = .returned (.tuple #[.agg #[.int .i64 (wrap64 (Int.tdiv (wrap64 (rd l0 a1)) 5)), .int .i64 (Int.tmod (wrap64 (rd l0 a1)) 5), .int .i64 (wrap64 (rd l0 (a1 + 1)))], .int .i64 (a1 + 1 + 1)]) ∧ Below w.heap.size w w' := by
  have hu24 := Try.underlying24
  have hl := Kd.C_max hr0
  have FX := Aside0.mk (YtimlccgpeoaigaaX.Fx.start w)
  obtain ⟨ad, e0, hx⟩ := Kd.at_int hr0 a1 h0 h1
  obtain ⟨ad', e1, hy⟩ := Kd.at_int hr0 (a1 + 1) (by omega) h2
  obtain rfl : ad = ad' := by rw [e0] at e1; injection e1
  subst e0
  have HX := Aside0.mk hx
  clear hx
  have HY := Aside0.mk hy
  clear hy
  have q3 : (a1 + 1 == (l0.length : Int)) = false := beq_eq_false_iff_ne.mpr (by omega)
  go_enter Try.func12, Try.ntmps12
  go_wp2_with (first | ((with_reducible refine gate_dst (N := 4) rfl ?_); refine box_event ?hg (N := 4) ?hd (cs := #[.int .i64 0, .int .i64 0, .int .i64 0]) (t := 24) ?hr ?_; (case hd => rfl); (case hg => rfl); (case hr => first | (go_simp; done) | (go_simp; rfl)); intro g4 e3 w2 k4 b5; have FX1 := Aside0.mk (FX.out.alloc e3 k4 b5); clear e3 k4 b5; clear FX; have hcg4_0 := FX1.out.cell 0 0 rfl rfl; have hfg4_0 := FX1.out.free 0 0 rfl; have hcg4_1 := FX1.out.cell 0 1 rfl rfl; have hfg4_1 := FX1.out.free 0 1 rfl; have hcg4_2 := FX1.out.cell 0 2 rfl rfl; have hfg4_2 := FX1.out.free 0 2 rfl; have hx := FX1.out.old HX.out; have hy := FX1.out.old HY.out) | (go_at_call 38; (with_reducible refine (impl_within.calls _ _ _ true _ (by rw [within_tells]; exact congrArg some (by first | exact decide_eq_true (by omega) | exact decide_eq_false (by omega)))).mono ?_); rintro e w7 ⟨rfl, b8⟩; have FX6 := Aside0.mk (FX1.out.call b8.below); clear b8; clear FX1; clear hcg4_0 hfg4_0 hcg4_1 hfg4_1 hcg4_2 hfg4_2 hx hy; have hcg4_0 := FX6.out.cell 0 0 rfl rfl; have hfg4_0 := FX6.out.free 0 0 rfl; have hcg4_1 := FX6.out.cell 0 1 rfl rfl; have hfg4_1 := FX6.out.free 0 1 rfl; have hcg4_2 := FX6.out.cell 0 2 rfl rfl; have hfg4_2 := FX6.out.free 0 2 rfl; have hx := FX6.out.old HX.out; have hy := FX6.out.old HY.out; have hx2 := fun o => pw_cell_below (below_alloc (Below.refl w7.heap.size w7) o) hx))
  go_region
  clear hx2
  clear hcg4_0 hfg4_0 hcg4_1 hfg4_1 hcg4_2 hfg4_2 hx hy
  refine YtimlccgpeoaigaaV.gen_then (p := fun W' => ∃ g6, YtimlccgpeoaigaaX.Fx w W' [YtimlccgpeoaigaaX.blk g6 24 #[.int .i64 (wrap64 (Int.tdiv (wrap64 (rd l0 a1)) 5)), .int .i64 (Int.tmod (wrap64 (rd l0 a1)) 5), .int .i64 0], YtimlccgpeoaigaaX.blk g4 24 #[.int .i64 0, .int .i64 0, .int .i64 0]] ∧ g6 = w7.heap.size) ⟨_, (FX6.out.alloc rfl (blk_new _ _) (below_alloc (Below.refl _ _) _)).drew, rfl⟩ ?_
  rintro w6 ⟨g6, fx6, e6⟩
  rw [← e6]
  have FXR := Aside0.mk fx6
  clear fx6 e6 FX6
  have hcg6_0 := FXR.out.cell 0 0 rfl rfl
  have hfg6_0 := FXR.out.free 0 0 rfl
  have hcg6_1 := FXR.out.cell 0 1 rfl rfl
  have hfg6_1 := FXR.out.free 0 1 rfl
  have hcg6_2 := FXR.out.cell 0 2 rfl rfl
  have hfg6_2 := FXR.out.free 0 2 rfl
  have hcg4_0 := FXR.out.cell 1 0 rfl rfl
  have hfg4_0 := FXR.out.free 1 0 rfl
  have hcg4_1 := FXR.out.cell 1 1 rfl rfl
  have hfg4_1 := FXR.out.free 1 1 rfl
  have hcg4_2 := FXR.out.cell 1 2 rfl rfl
  have hfg4_2 := FXR.out.free 1 2 rfl
  have hx := FXR.out.old HX.out
  have hy := FXR.out.old HY.out
  go_wp2_with (first | (go_at_call 39; (with_reducible refine (impl_hasX.calls _ true _ (by rw [implHasX_tells]; exact congrArg some hkd)).mono ?_); rintro e w10 ⟨rfl, b11⟩; have FX9 := Aside0.mk (FXR.out.call b11.below); clear b11; clear FXR; clear hcg6_0 hfg6_0 hcg6_1 hfg6_1 hcg6_2 hfg6_2 hcg4_0 hfg4_0 hcg4_1 hfg4_1 hcg4_2 hfg4_2 hx hy; have hcg6_0 := FX9.out.cell 0 0 rfl rfl; have hfg6_0 := FX9.out.free 0 0 rfl; have hcg6_1 := FX9.out.cell 0 1 rfl rfl; have hfg6_1 := FX9.out.free 0 1 rfl; have hcg6_2 := FX9.out.cell 0 2 rfl rfl; have hfg6_2 := FX9.out.free 0 2 rfl; have hcg4_0 := FX9.out.cell 1 0 rfl rfl; have hfg4_0 := FX9.out.free 1 0 rfl; have hcg4_1 := FX9.out.cell 1 1 rfl rfl; have hfg4_1 := FX9.out.free 1 1 rfl; have hcg4_2 := FX9.out.cell 1 2 rfl rfl; have hfg4_2 := FX9.out.free 1 2 rfl; have hx := FX9.out.old HX.out; have hy := FX9.out.old HY.out) | ((with_reducible refine gate_store (t := 3) (p := 45) rfl ?_); refine store_event (t := 3) (p := 45) (v := ?vo_w13) (w1 := (w10.setCell ⟨g6, 2, none⟩ (.int .i64 (wrap64 (rd l0 (a1 + 1)))))) ?hg ?ho ?hn ?hr ?_; (case ho => rfl); (case hg => rfl); (case hn => rfl); (case hr => first | (go_simp; done) | (go_simp; rfl)); intro w13 e14; have FX12 : Aside0 (YtimlccgpeoaigaaX.Fx w w13 [YtimlccgpeoaigaaX.blk g6 24 #[.int .i64 (wrap64 (Int.tdiv (wrap64 (rd l0 a1)) 5)), .int .i64 (Int.tmod (wrap64 (rd l0 a1)) 5), .int .i64 (wrap64 (rd l0 (a1 + 1)))], YtimlccgpeoaigaaX.blk g4 24 #[.int .i64 0, .int .i64 0, .int .i64 0]]) := ⟨by rw [e14]; exact (FX9.out.store 0 rfl 2 (.int .i64 (wrap64 (rd l0 (a1 + 1)))) #[.int .i64 (wrap64 (Int.tdiv (wrap64 (rd l0 a1)) 5)), .int .i64 (Int.tmod (wrap64 (rd l0 a1)) 5), .int .i64 (wrap64 (rd l0 (a1 + 1)))] rfl)⟩; clear e14; clear FX9; clear hcg6_0 hfg6_0 hcg6_1 hfg6_1 hcg6_2 hfg6_2 hcg4_0 hfg4_0 hcg4_1 hfg4_1 hcg4_2 hfg4_2 hx hy; have hcg6_0 := FX12.out.cell 0 0 rfl rfl; have hfg6_0 := FX12.out.free 0 0 rfl; have hcg6_1 := FX12.out.cell 0 1 rfl rfl; have hfg6_1 := FX12.out.free 0 1 rfl; have hcg6_2 := FX12.out.cell 0 2 rfl rfl; have hfg6_2 := FX12.out.free 0 2 rfl; have hcg4_0 := FX12.out.cell 1 0 rfl rfl; have hfg4_0 := FX12.out.free 1 0 rfl; have hcg4_1 := FX12.out.cell 1 1 rfl rfl; have hfg4_1 := FX12.out.free 1 1 rfl; have hcg4_2 := FX12.out.cell 1 2 rfl rfl; have hfg4_2 := FX12.out.free 1 2 rfl; have hx := FX12.out.old HX.out; have hy := FX12.out.old HY.out) | (go_at_call 40; (with_reducible refine (impl_OpOk.calls 1 (wrap64 (Int.tdiv (wrap64 (rd l0 a1)) 5)) (Int.tmod (wrap64 (rd l0 a1)) 5) (wrap64 (rd l0 (a1 + 1))) true _ (by rw [implOpOk_tells 1 (by omega)]; exact congrArg some hok)).mono ?_); rintro e w16 ⟨rfl, b17⟩; have FX15 := Aside0.mk (FX12.out.call b17); clear b17; clear FX12; clear hcg6_0 hfg6_0 hcg6_1 hfg6_1 hcg6_2 hfg6_2 hcg4_0 hfg4_0 hcg4_1 hfg4_1 hcg4_2 hfg4_2 hx hy; have hcg6_0 := FX15.out.cell 0 0 rfl rfl; have hfg6_0 := FX15.out.free 0 0 rfl; have hcg6_1 := FX15.out.cell 0 1 rfl rfl; have hfg6_1 := FX15.out.free 0 1 rfl; have hcg6_2 := FX15.out.cell 0 2 rfl rfl; have hfg6_2 := FX15.out.free 0 2 rfl; have hcg4_0 := FX15.out.cell 1 0 rfl rfl; have hfg4_0 := FX15.out.free 1 0 rfl; have hcg4_1 := FX15.out.cell 1 1 rfl rfl; have hfg4_1 := FX15.out.free 1 1 rfl; have hcg4_2 := FX15.out.cell 1 2 rfl rfl; have hfg4_2 := FX15.out.free 1 2 rfl; have hx := FX15.out.old HX.out; have hy := FX15.out.old HY.out) | ((with_reducible refine gate_store (t := 24) (p := 4) rfl ?_); refine store_event (t := 24) (p := 4) (v := ?vo_w19) (w1 := (((w16.setCell ⟨g4, 0, none⟩ (.int .i64 (wrap64 (Int.tdiv (wrap64 (rd l0 a1)) 5)))).setCell ⟨g4, 1, none⟩ (.int .i64 (Int.tmod (wrap64 (rd l0 a1)) 5))).setCell ⟨g4, 2, none⟩ (.int .i64 (wrap64 (rd l0 (a1 + 1)))))) ?hg ?ho ?hn ?hr ?_; (case ho => rfl); (case hg => rfl); (case hn => rfl); (case hr => first | (go_simp; done) | (go_simp; rfl)); intro w19 e20; have FX18 : Aside0 (YtimlccgpeoaigaaX.Fx w w19 [YtimlccgpeoaigaaX.blk g6 24 #[.int .i64 (wrap64 (Int.tdiv (wrap64 (rd l0 a1)) 5)), .int .i64 (Int.tmod (wrap64 (rd l0 a1)) 5), .int .i64 (wrap64 (rd l0 (a1 + 1)))], YtimlccgpeoaigaaX.blk g4 24 #[.int .i64 (wrap64 (Int.tdiv (wrap64 (rd l0 a1)) 5)), .int .i64 (Int.tmod (wrap64 (rd l0 a1)) 5), .int .i64 (wrap64 (rd l0 (a1 + 1)))]]) := ⟨by rw [e20]; exact (((FX15.out.store 1 rfl 0 (.int .i64 (wrap64 (Int.tdiv (wrap64 (rd l0 a1)) 5))) #[.int .i64 (wrap64 (Int.tdiv (wrap64 (rd l0 a1)) 5)), .int .i64 0, .int .i64 0] rfl).store 1 rfl 1 (.int .i64 (Int.tmod (wrap64 (rd l0 a1)) 5)) #[.int .i64 (wrap64 (Int.tdiv (wrap64 (rd l0 a1)) 5)), .int .i64 (Int.tmod (wrap64 (rd l0 a1)) 5), .int .i64 0] rfl).store 1 rfl 2 (.int .i64 (wrap64 (rd l0 (a1 + 1)))) #[.int .i64 (wrap64 (Int.tdiv (wrap64 (rd l0 a1)) 5)), .int .i64 (Int.tmod (wrap64 (rd l0 a1)) 5), .int .i64 (wrap64 (rd l0 (a1 + 1)))] rfl)⟩; clear e20; clear FX15; clear hcg6_0 hfg6_0 hcg6_1 hfg6_1 hcg6_2 hfg6_2 hcg4_0 hfg4_0 hcg4_1 hfg4_1 hcg4_2 hfg4_2 hx hy; have hcg6_0 := FX18.out.cell 0 0 rfl rfl; have hfg6_0 := FX18.out.free 0 0 rfl; have hcg6_1 := FX18.out.cell 0 1 rfl rfl; have hfg6_1 := FX18.out.free 0 1 rfl; have hcg6_2 := FX18.out.cell 0 2 rfl rfl; have hfg6_2 := FX18.out.free 0 2 rfl; have hcg4_0 := FX18.out.cell 1 0 rfl rfl; have hfg4_0 := FX18.out.free 1 0 rfl; have hcg4_1 := FX18.out.cell 1 1 rfl rfl; have hfg4_1 := FX18.out.free 1 1 rfl; have hcg4_2 := FX18.out.cell 1 2 rfl rfl; have hfg4_2 := FX18.out.free 1 2 rfl; have hx := FX18.out.old HX.out; have hy := FX18.out.old HY.out))
  exact bodyPost_ret (results_ct rfl _ _ g4 24 #[.int .i64 (wrap64 (Int.tdiv (wrap64 (rd l0 a1)) 5)), .int .i64 (Int.tmod (wrap64 (rd l0 a1)) 5), .int .i64 (wrap64 (rd l0 (a1 + 1)))] (0, 0) _ rfl (FX18.out.blkOf 1 rfl) Try.underlying24 rfl (by kernel_rfl)) rfl ⟨rfl, FX18.out.below⟩
set_option maxHeartbeats 8000000 in
set_option maxRecDepth 100000 in
theorem impl_UnpackOp.u_one_true (A0 : Option Addr) (c0 : Nat) (l0 : List Int) (a1 : Int) (w : World) (hr0 : Kd.C (Kd.int .u8) w A0 l0.length l0) (hc0 : l0.length ≤ c0) (h0 : 0 ≤ a1) (h1 : a1 < (l0.length : Int)) (hkd : decide (1 ≤ wrap64 (Int.tdiv (wrap64 (rd l0 a1)) 5) ∧ wrap64 (Int.tdiv (wrap64 (rd l0 a1)) 5) ≤ 3) = false) (hok : opB (wrap64 (Int.tdiv (wrap64 (rd l0 a1)) 5)) (Int.tmod (wrap64 (rd l0 a1)) 5) 0 = true) :
    Calls Try.prog 12 #[.slice A0 l0.length c0, .int .i64 a1] w fun e w' => e = .returned (.tuple #[.agg #[.int .i64 (wrap64 (Int.tdiv (wrap64 (rd l0 a1)) 5)), .int .i64 (Int.tmod (wrap64 (rd l0 a1)) 5), .int .i64 0], .int .i64 (a1 + 1)]) ∧ Below w.heap.size w w' := by
  have hu24 := Try.underlying24
  have hl := Kd.C_max hr0
  have FX := Aside0.mk (YtimlccgpeoaigaaX.Fx.start w)
  obtain ⟨ad, e0, hx⟩ := Kd.at_int hr0 a1 h0 h1
  subst e0
  have HX := Aside0.mk hx
  clear hx
  go_enter Try.func12, Try.ntmps12
  go_wp2_with (first | ((with_reducible refine gate_dst (N := 4) rfl ?_); refine box_event ?hg (N := 4) ?hd (cs := #[.int .i64 0, .int .i64 0, .int .i64 0]) (t := 24) ?hr ?_; (case hd => rfl); (case hg => rfl); (case hr => first | (go_simp; done) | (go_simp; rfl)); intro g4 e3 w2 k4 b5; have FX1 := Aside0.mk (FX.out.alloc e3 k4 b5); clear e3 k4 b5; clear FX; have hcg4_0 := FX1.out.cell 0 0 rfl rfl; have hfg4_0 := FX1.out.free 0 0 rfl; have hcg4_1 := FX1.out.cell 0 1 rfl rfl; have hfg4_1 := FX1.out.free 0 1 rfl; have hcg4_2 := FX1.out.cell 0 2 rfl rfl; have hfg4_2 := FX1.out.free 0 2 rfl; have hx := FX1.out.old HX.out) | (go_at_call 38; (with_reducible refine (impl_within.calls _ _ _ true _ (by rw [within_tells]; exact congrArg some (by first | exact decide_eq_true (by omega) | exact decide_eq_false (by omega)))).mono ?_); rintro e w7 ⟨rfl, b8⟩; have FX6 := Aside0.mk (FX1.out.call b8.below); clear b8; clear FX1; clear hcg4_0 hfg4_0 hcg4_1 hfg4_1 hcg4_2 hfg4_2 hx; have hcg4_0 := FX6.out.cell 0 0 rfl rfl; have hfg4_0 := FX6.out.free 0 0 rfl; have hcg4_1 := FX6.out.cell 0 1 rfl rfl; have hfg4_1 := FX6.out.free 0 1 rfl; have hcg4_2 := FX6.out.cell 0 2 rfl rfl; have hfg4_2 := FX6.out.free 0 2 rfl; have hx := FX6.out.old HX.out; have hx2 := fun o => pw_cell_below (below_alloc (Below.refl w7.heap.size w7) o) hx))
  go_region
  clear hx2
  clear hcg4_0 hfg4_0 hcg4_1 hfg4_1 hcg4_2 hfg4_2 hx
  refine YtimlccgpeoaigaaV.gen_then (p := fun W' => ∃ g6, YtimlccgpeoaigaaX.Fx w W' [YtimlccgpeoaigaaX.blk g6 24 #[.int .i64 (wrap64 (Int.tdiv (wrap64 (rd l0 a1)) 5)), .int .i64 (Int.tmod (wrap64 (rd l0 a1)) 5), .int .i64 0], YtimlccgpeoaigaaX.blk g4 24 #[.int .i64 0, .int .i64 0, .int .i64 0]] ∧ g6 = w7.heap.size) ⟨_, (FX6.out.alloc rfl (blk_new _ _) (below_alloc (Below.refl _ _) _)).drew, rfl⟩ ?_
  rintro w6 ⟨g6, fx6, e6⟩
  rw [← e6]
  have FXR := Aside0.mk fx6
  clear fx6 e6 FX6
  have hcg6_0 := FXR.out.cell 0 0 rfl rfl
  have hfg6_0 := FXR.out.free 0 0 rfl
  have hcg6_1 := FXR.out.cell 0 1 rfl rfl
  have hfg6_1 := FXR.out.free 0 1 rfl
  have hcg6_2 := FXR.out.cell 0 2 rfl rfl
  have hfg6_2 := FXR.out.free 0 2 rfl
  have hcg4_0 := FXR.out.cell 1 0 rfl rfl
  have hfg4_0 := FXR.out.free 1 0 rfl
  have hcg4_1 := FXR.out.cell 1 1 rfl rfl
  have hfg4_1 := FXR.out.free 1 1 rfl
  have hcg4_2 := FXR.out.cell 1 2 rfl rfl
  have hfg4_2 := FXR.out.free 1 2 rfl
  have hx := FXR.out.old HX.out
  go_wp2_with (first | (go_at_call 39; (with_reducible refine (impl_hasX.calls _ false _ (by rw [implHasX_tells]; exact congrArg some hkd)).mono ?_); rintro e w10 ⟨rfl, b11⟩; have FX9 := Aside0.mk (FXR.out.call b11.below); clear b11; clear FXR; clear hcg6_0 hfg6_0 hcg6_1 hfg6_1 hcg6_2 hfg6_2 hcg4_0 hfg4_0 hcg4_1 hfg4_1 hcg4_2 hfg4_2 hx; have hcg6_0 := FX9.out.cell 0 0 rfl rfl; have hfg6_0 := FX9.out.free 0 0 rfl; have hcg6_1 := FX9.out.cell 0 1 rfl rfl; have hfg6_1 := FX9.out.free 0 1 rfl; have hcg6_2 := FX9.out.cell 0 2 rfl rfl; have hfg6_2 := FX9.out.free 0 2 rfl; have hcg4_0 := FX9.out.cell 1 0 rfl rfl; have hfg4_0 := FX9.out.free 1 0 rfl; have hcg4_1 := FX9.out.cell 1 1 rfl rfl; have hfg4_1 := FX9.out.free 1 1 rfl; have hcg4_2 := FX9.out.cell 1 2 rfl rfl; have hfg4_2 := FX9.out.free 1 2 rfl; have hx := FX9.out.old HX.out) | (go_at_call 40; (with_reducible refine (impl_OpOk.calls 1 (wrap64 (Int.tdiv (wrap64 (rd l0 a1)) 5)) (Int.tmod (wrap64 (rd l0 a1)) 5) (0) true _ (by rw [implOpOk_tells 1 (by omega)]; exact congrArg some hok)).mono ?_); rintro e w13 ⟨rfl, b14⟩; have FX12 := Aside0.mk (FX9.out.call b14); clear b14; clear FX9; clear hcg6_0 hfg6_0 hcg6_1 hfg6_1 hcg6_2 hfg6_2 hcg4_0 hfg4_0 hcg4_1 hfg4_1 hcg4_2 hfg4_2 hx; have hcg6_0 := FX12.out.cell 0 0 rfl rfl; have hfg6_0 := FX12.out.free 0 0 rfl; have hcg6_1 := FX12.out.cell 0 1 rfl rfl; have hfg6_1 := FX12.out.free 0 1 rfl; have hcg6_2 := FX12.out.cell 0 2 rfl rfl; have hfg6_2 := FX12.out.free 0 2 rfl; have hcg4_0 := FX12.out.cell 1 0 rfl rfl; have hfg4_0 := FX12.out.free 1 0 rfl; have hcg4_1 := FX12.out.cell 1 1 rfl rfl; have hfg4_1 := FX12.out.free 1 1 rfl; have hcg4_2 := FX12.out.cell 1 2 rfl rfl; have hfg4_2 := FX12.out.free 1 2 rfl; have hx := FX12.out.old HX.out) | ((with_reducible refine gate_store (t := 24) (p := 4) rfl ?_); refine store_event (t := 24) (p := 4) (v := ?vo_w16) (w1 := (((w13.setCell ⟨g4, 0, none⟩ (.int .i64 (wrap64 (Int.tdiv (wrap64 (rd l0 a1)) 5)))).setCell ⟨g4, 1, none⟩ (.int .i64 (Int.tmod (wrap64 (rd l0 a1)) 5))).setCell ⟨g4, 2, none⟩ (.int .i64 0))) ?hg ?ho ?hn ?hr ?_; (case ho => rfl); (case hg => rfl); (case hn => rfl); (case hr => first | (go_simp; done) | (go_simp; rfl)); intro w16 e17; have FX15 : Aside0 (YtimlccgpeoaigaaX.Fx w w16 [YtimlccgpeoaigaaX.blk g6 24 #[.int .i64 (wrap64 (Int.tdiv (wrap64 (rd l0 a1)) 5)), .int .i64 (Int.tmod (wrap64 (rd l0 a1)) 5), .int .i64 0], YtimlccgpeoaigaaX.blk g4 24 #[.int .i64 (wrap64 (Int.tdiv (wrap64 (rd l0 a1)) 5)), .int .i64 (Int.tmod (wrap64 (rd l0 a1)) 5), .int .i64 0]]) := ⟨by rw [e17]; exact (((FX12.out.store 1 rfl 0 (.int .i64 (wrap64 (Int.tdiv (wrap64 (rd l0 a1)) 5))) #[.int .i64 (wrap64 (Int.tdiv (wrap64 (rd l0 a1)) 5)), .int .i64 0, .int .i64 0] rfl).store 1 rfl 1 (.int .i64 (Int.tmod (wrap64 (rd l0 a1)) 5)) #[.int .i64 (wrap64 (Int.tdiv (wrap64 (rd l0 a1)) 5)), .int .i64 (Int.tmod (wrap64 (rd l0 a1)) 5), .int .i64 0] rfl).store 1 rfl 2 (.int .i64 0) #[.int .i64 (wrap64 (Int.tdiv (wrap64 (rd l0 a1)) 5)), .int .i64 (Int.tmod (wrap64 (rd l0 a1)) 5), .int .i64 0] rfl)⟩; clear e17; clear FX12; clear hcg6_0 hfg6_0 hcg6_1 hfg6_1 hcg6_2 hfg6_2 hcg4_0 hfg4_0 hcg4_1 hfg4_1 hcg4_2 hfg4_2 hx; have hcg6_0 := FX15.out.cell 0 0 rfl rfl; have hfg6_0 := FX15.out.free 0 0 rfl; have hcg6_1 := FX15.out.cell 0 1 rfl rfl; have hfg6_1 := FX15.out.free 0 1 rfl; have hcg6_2 := FX15.out.cell 0 2 rfl rfl; have hfg6_2 := FX15.out.free 0 2 rfl; have hcg4_0 := FX15.out.cell 1 0 rfl rfl; have hfg4_0 := FX15.out.free 1 0 rfl; have hcg4_1 := FX15.out.cell 1 1 rfl rfl; have hfg4_1 := FX15.out.free 1 1 rfl; have hcg4_2 := FX15.out.cell 1 2 rfl rfl; have hfg4_2 := FX15.out.free 1 2 rfl; have hx := FX15.out.old HX.out))
  exact bodyPost_ret (results_ct rfl _ _ g4 24 #[.int .i64 (wrap64 (Int.tdiv (wrap64 (rd l0 a1)) 5)), .int .i64 (Int.tmod (wrap64 (rd l0 a1)) 5), .int .i64 0] (0, 0) _ rfl (FX15.out.blkOf 1 rfl) Try.underlying24 rfl (by kernel_rfl)) rfl ⟨rfl, FX15.out.below⟩
set_option maxHeartbeats 8000000 in
set_option maxRecDepth 100000 in
theorem impl_UnpackOp.u_two_false (A0 : Option Addr) (c0 : Nat) (l0 : List Int) (a1 : Int) (w : World) (hr0 : Kd.C (Kd.int .u8) w A0 l0.length l0) (hc0 : l0.length ≤ c0) (h0 : 0 ≤ a1) (h1 : a1 < (l0.length : Int)) (hkd : decide (1 ≤ wrap64 (Int.tdiv (wrap64 (rd l0 a1)) 5) ∧ wrap64 (Int.tdiv (wrap64 (rd l0 a1)) 5) ≤ 3) = true) (h2 : a1 + 1 < (l0.length : Int)) (hok : opB (wrap64 (Int.tdiv (wrap64 (rd l0 a1)) 5)) (Int.tmod (wrap64 (rd l0 a1)) 5) (wrap64 (rd l0 (a1 + 1))) = false) :
    Calls Try.prog 12 #[.slice A0 l0.length c0, .int .i64 a1] w fun e w' => e = .returned (.tuple #[.agg #[.int .i64 0, .int .i64 0, .int .i64 0], .int .i64 (-1)]) ∧ Below w.heap.size w w' := by
  have hu24 := Try.underlying24
  have hl := Kd.C_max hr0
  have FX := Aside0.mk (YtimlccgpeoaigaaX.Fx.start w)
  obtain ⟨ad, e0, hx⟩ := Kd.at_int hr0 a1 h0 h1
  obtain ⟨ad', e1, hy⟩ := Kd.at_int hr0 (a1 + 1) (by omega) h2
  obtain rfl : ad = ad' := by rw [e0] at e1; injection e1
  subst e0
  have HX := Aside0.mk hx
  clear hx
  have HY := Aside0.mk hy
  clear hy
  have q3 : (a1 + 1 == (l0.length : Int)) = false := beq_eq_false_iff_ne.mpr (by omega)
  go_enter Try.func12, Try.ntmps12
  go_wp2_with (first | ((with_reducible refine gate_dst (N := 4) rfl ?_); refine box_event ?hg (N := 4) ?hd (cs := #[.int .i64 0, .int .i64 0, .int .i64 0]) (t := 24) ?hr ?_; (case hd => rfl); (case hg => rfl); (case hr => first | (go_simp; done) | (go_simp; rfl)); intro g4 e3 w2 k4 b5; have FX1 := Aside0.mk (FX.out.alloc e3 k4 b5); clear e3 k4 b5; clear FX; have hcg4_0 := FX1.out.cell 0 0 rfl rfl; have hfg4_0 := FX1.out.free 0 0 rfl; have hcg4_1 := FX1.out.cell 0 1 rfl rfl; have hfg4_1 := FX1.out.free 0 1 rfl; have hcg4_2 := FX1.out.cell 0 2 rfl rfl; have hfg4_2 := FX1.out.free 0 2 rfl; have hx := FX1.out.old HX.out; have hy := FX1.out.old HY.out) | (go_at_call 38; (with_reducible refine (impl_within.calls _ _ _ true _ (by rw [within_tells]; exact congrArg some (by first | exact decide_eq_true (by omega) | exact decide_eq_false (by omega)))).mono ?_); rintro e w7 ⟨rfl, b8⟩; have FX6 := Aside0.mk (FX1.out.call b8.below); clear b8; clear FX1; clear hcg4_0 hfg4_0 hcg4_1 hfg4_1 hcg4_2 hfg4_2 hx hy; have hcg4_0 := FX6.out.cell 0 0 rfl rfl; have hfg4_0 := FX6.out.free 0 0 rfl; have hcg4_1 := FX6.out.cell 0 1 rfl rfl; have hfg4_1 := FX6.out.free 0 1 rfl; have hcg4_2 := FX6.out.cell 0 2 rfl rfl; have hfg4_2 := FX6.out.free 0 2 rfl; have hx := FX6.out.old HX.out; have hy := FX6.out.old HY.out; have hx2 := fun o => pw_cell_below (below_alloc (Below.refl w7.heap.size w7) o) hx))
  go_region
  clear hx2
  clear hcg4_0 hfg4_0 hcg4_1 hfg4_1 hcg4_2 hfg4_2 hx hy
  refine YtimlccgpeoaigaaV.gen_then (p := fun W' => ∃ g6, YtimlccgpeoaigaaX.Fx w W' [YtimlccgpeoaigaaX.blk g6 24 #[.int .i64 (wrap64 (Int.tdiv (wrap64 (rd l0 a1)) 5)), .int .i64 (Int.tmod (wrap64 (rd l0 a1)) 5), .int .i64 0], YtimlccgpeoaigaaX.blk g4 24 #[.int .i64 0, .int .i64 0, .int .i64 0]] ∧ g6 = w7.heap.size) ⟨_, (FX6.out.alloc rfl (blk_new _ _) (below_alloc (Below.refl _ _) _)).drew, rfl⟩ ?_
  rintro w6 ⟨g6, fx6, e6⟩
  rw [← e6]
  have FXR := Aside0.mk fx6
  clear fx6 e6 FX6
  have hcg6_0 := FXR.out.cell 0 0 rfl rfl
  have hfg6_0 := FXR.out.free 0 0 rfl
  have hcg6_1 := FXR.out.cell 0 1 rfl rfl
  have hfg6_1 := FXR.out.free 0 1 rfl
  have hcg6_2 := FXR.out.cell 0 2 rfl rfl
  have hfg6_2 := FXR.out.free 0 2 rfl
  have hcg4_0 := FXR.out.cell 1 0 rfl rfl
  have hfg4_0 := FXR.out.free 1 0 rfl
  have hcg4_1 := FXR.out.cell 1 1 rfl rfl
  have hfg4_1 := FXR.out.free 1 1 rfl
  have hcg4_2 := FXR.out.cell 1 2 rfl rfl
  have hfg4_2 := FXR.out.free 1 2 rfl
  have hx := FXR.out.old HX.out
  have hy := FXR.out.old HY.out
  go_wp2_with (first | (go_at_call 39; (with_reducible refine (impl_hasX.calls _ true _ (by rw [implHasX_tells]; exact congrArg some hkd)).mono ?_); rintro e w10 ⟨rfl, b11⟩; have FX9 := Aside0.mk (FXR.out.call b11.below); clear b11; clear FXR; clear hcg6_0 hfg6_0 hcg6_1 hfg6_1 hcg6_2 hfg6_2 hcg4_0 hfg4_0 hcg4_1 hfg4_1 hcg4_2 hfg4_2 hx hy; have hcg6_0 := FX9.out.cell 0 0 rfl rfl; have hfg6_0 := FX9.out.free 0 0 rfl; have hcg6_1 := FX9.out.cell 0 1 rfl rfl; have hfg6_1 := FX9.out.free 0 1 rfl; have hcg6_2 := FX9.out.cell 0 2 rfl rfl; have hfg6_2 := FX9.out.free 0 2 rfl; have hcg4_0 := FX9.out.cell 1 0 rfl rfl; have hfg4_0 := FX9.out.free 1 0 rfl; have hcg4_1 := FX9.out.cell 1 1 rfl rfl; have hfg4_1 := FX9.out.free 1 1 rfl; have hcg4_2 := FX9.out.cell 1 2 rfl rfl; have hfg4_2 := FX9.out.free 1 2 rfl; have hx := FX9.out.old HX.out; have hy := FX9.out.old HY.out) | ((with_reducible refine gate_store (t := 3) (p := 45) rfl ?_); refine store_event (t := 3) (p := 45) (v := ?vo_w13) (w1 := (w10.setCell ⟨g6, 2, none⟩ (.int .i64 (wrap64 (rd l0 (a1 + 1)))))) ?hg ?ho ?hn ?hr ?_; (case ho => rfl); (case hg => rfl); (case hn => rfl); (case hr => first | (go_simp; done) | (go_simp; rfl)); intro w13 e14; have FX12 : Aside0 (YtimlccgpeoaigaaX.Fx w w13 [YtimlccgpeoaigaaX.blk g6 24 #[.int .i64 (wrap64 (Int.tdiv (wrap64 (rd l0 a1)) 5)), .int .i64 (Int.tmod (wrap64 (rd l0 a1)) 5), .int .i64 (wrap64 (rd l0 (a1 + 1)))], YtimlccgpeoaigaaX.blk g4 24 #[.int .i64 0, .int .i64 0, .int .i64 0]]) := ⟨by rw [e14]; exact (FX9.out.store 0 rfl 2 (.int .i64 (wrap64 (rd l0 (a1 + 1)))) #[.int .i64 (wrap64 (Int.tdiv (wrap64 (rd l0 a1)) 5)), .int .i64 (Int.tmod (wrap64 (rd l0 a1)) 5), .int .i64 (wrap64 (rd l0 (a1 + 1)))] rfl)⟩; clear e14; clear FX9; clear hcg6_0 hfg6_0 hcg6_1 hfg6_1 hcg6_2 hfg6_2 hcg4_0 hfg4_0 hcg4_1 hfg4_1 hcg4_2 hfg4_2 hx hy; have hcg6_0 := FX12.out.cell 0 0 rfl rfl; have hfg6_0 := FX12.out.free 0 0 rfl; have hcg6_1 := FX12.out.cell 0 1 rfl rfl; have hfg6_1 := FX12.out.free 0 1 rfl; have hcg6_2 := FX12.out.cell 0 2 rfl rfl; have hfg6_2 := FX12.out.free 0 2 rfl; have hcg4_0 := FX12.out.cell 1 0 rfl rfl; have hfg4_0 := FX12.out.free 1 0 rfl; have hcg4_1 := FX12.out.cell 1 1 rfl rfl; have hfg4_1 := FX12.out.free 1 1 rfl; have hcg4_2 := FX12.out.cell 1 2 rfl rfl; have hfg4_2 := FX12.out.free 1 2 rfl; have hx := FX12.out.old HX.out; have hy := FX12.out.old HY.out) | (go_at_call 40; (with_reducible refine (impl_OpOk.calls 1 (wrap64 (Int.tdiv (wrap64 (rd l0 a1)) 5)) (Int.tmod (wrap64 (rd l0 a1)) 5) (wrap64 (rd l0 (a1 + 1))) false _ (by rw [implOpOk_tells 1 (by omega)]; exact congrArg some hok)).mono ?_); rintro e w16 ⟨rfl, b17⟩; have FX15 := Aside0.mk (FX12.out.call b17); clear b17; clear FX12; clear hcg6_0 hfg6_0 hcg6_1 hfg6_1 hcg6_2 hfg6_2 hcg4_0 hfg4_0 hcg4_1 hfg4_1 hcg4_2 hfg4_2 hx hy; have hcg6_0 := FX15.out.cell 0 0 rfl rfl; have hfg6_0 := FX15.out.free 0 0 rfl; have hcg6_1 := FX15.out.cell 0 1 rfl rfl; have hfg6_1 := FX15.out.free 0 1 rfl; have hcg6_2 := FX15.out.cell 0 2 rfl rfl; have hfg6_2 := FX15.out.free 0 2 rfl; have hcg4_0 := FX15.out.cell 1 0 rfl rfl; have hfg4_0 := FX15.out.free 1 0 rfl; have hcg4_1 := FX15.out.cell 1 1 rfl rfl; have hfg4_1 := FX15.out.free 1 1 rfl; have hcg4_2 := FX15.out.cell 1 2 rfl rfl; have hfg4_2 := FX15.out.free 1 2 rfl; have hx := FX15.out.old HX.out; have hy := FX15.out.old HY.out) | ((with_reducible refine gate_store (t := 24) (p := 4) rfl ?_); refine store_event (t := 24) (p := 4) (v := ?vo_w19) (w1 := (((w16.setCell ⟨g4, 0, none⟩ (.int .i64 0)).setCell ⟨g4, 1, none⟩ (.int .i64 0)).setCell ⟨g4, 2, none⟩ (.int .i64 0))) ?hg ?ho ?hn ?hr ?_; (case ho => rfl); (case hg => rfl); (case hn => rfl); (case hr => first | (go_simp; done) | (go_simp; rfl)); intro w19 e20; have FX18 : Aside0 (YtimlccgpeoaigaaX.Fx w w19 [YtimlccgpeoaigaaX.blk g6 24 #[.int .i64 (wrap64 (Int.tdiv (wrap64 (rd l0 a1)) 5)), .int .i64 (Int.tmod (wrap64 (rd l0 a1)) 5), .int .i64 (wrap64 (rd l0 (a1 + 1)))], YtimlccgpeoaigaaX.blk g4 24 #[.int .i64 0, .int .i64 0, .int .i64 0]]) := ⟨by rw [e20]; exact (((FX15.out.store 1 rfl 0 (.int .i64 0) #[.int .i64 0, .int .i64 0, .int .i64 0] rfl).store 1 rfl 1 (.int .i64 0) #[.int .i64 0, .int .i64 0, .int .i64 0] rfl).store 1 rfl 2 (.int .i64 0) #[.int .i64 0, .int .i64 0, .int .i64 0] rfl)⟩; clear e20; clear FX15; clear hcg6_0 hfg6_0 hcg6_1 hfg6_1 hcg6_2 hfg6_2 hcg4_0 hfg4_0 hcg4_1 hfg4_1 hcg4_2 hfg4_2 hx hy; have hcg6_0 := FX18.out.cell 0 0 rfl rfl; have hfg6_0 := FX18.out.free 0 0 rfl; have hcg6_1 := FX18.out.cell 0 1 rfl rfl; have hfg6_1 := FX18.out.free 0 1 rfl; have hcg6_2 := FX18.out.cell 0 2 rfl rfl; have hfg6_2 := FX18.out.free 0 2 rfl; have hcg4_0 := FX18.out.cell 1 0 rfl rfl; have hfg4_0 := FX18.out.free 1 0 rfl; have hcg4_1 := FX18.out.cell 1 1 rfl rfl; have hfg4_1 := FX18.out.free 1 1 rfl; have hcg4_2 := FX18.out.cell 1 2 rfl rfl; have hfg4_2 := FX18.out.free 1 2 rfl; have hx := FX18.out.old HX.out; have hy := FX18.out.old HY.out))
  exact bodyPost_ret (results_ct rfl _ _ g4 24 #[.int .i64 0, .int .i64 0, .int .i64 0] (0, 0) _ rfl (FX18.out.blkOf 1 rfl) Try.underlying24 rfl (by kernel_rfl)) rfl ⟨rfl, FX18.out.below⟩
set_option maxHeartbeats 8000000 in
set_option maxRecDepth 100000 in
theorem impl_UnpackOp.u_one_false (A0 : Option Addr) (c0 : Nat) (l0 : List Int) (a1 : Int) (w : World) (hr0 : Kd.C (Kd.int .u8) w A0 l0.length l0) (hc0 : l0.length ≤ c0) (h0 : 0 ≤ a1) (h1 : a1 < (l0.length : Int)) (hkd : decide (1 ≤ wrap64 (Int.tdiv (wrap64 (rd l0 a1)) 5) ∧ wrap64 (Int.tdiv (wrap64 (rd l0 a1)) 5) ≤ 3) = false) (hok : opB (wrap64 (Int.tdiv (wrap64 (rd l0 a1)) 5)) (Int.tmod (wrap64 (rd l0 a1)) 5) 0 = false) :
    Calls Try.prog 12 #[.slice A0 l0.length c0, .int .i64 a1] w fun e w' => e = .returned (.tuple #[.agg #[.int .i64 0, .int .i64 0, .int .i64 0], .int .i64 (-1)]) ∧ Below w.heap.size w w' := by
  have hu24 := Try.underlying24
  have hl := Kd.C_max hr0
  have FX := Aside0.mk (YtimlccgpeoaigaaX.Fx.start w)
  obtain ⟨ad, e0, hx⟩ := Kd.at_int hr0 a1 h0 h1
  subst e0
  have HX := Aside0.mk hx
  clear hx
  go_enter Try.func12, Try.ntmps12
  go_wp2_with (first | ((with_reducible refine gate_dst (N := 4) rfl ?_); refine box_event ?hg (N := 4) ?hd (cs := #[.int .i64 0, .int .i64 0, .int .i64 0]) (t := 24) ?hr ?_; (case hd => rfl); (case hg => rfl); (case hr => first | (go_simp; done) | (go_simp; rfl)); intro g4 e3 w2 k4 b5; have FX1 := Aside0.mk (FX.out.alloc e3 k4 b5); clear e3 k4 b5; clear FX; have hcg4_0 := FX1.out.cell 0 0 rfl rfl; have hfg4_0 := FX1.out.free 0 0 rfl; have hcg4_1 := FX1.out.cell 0 1 rfl rfl; have hfg4_1 := FX1.out.free 0 1 rfl; have hcg4_2 := FX1.out.cell 0 2 rfl rfl; have hfg4_2 := FX1.out.free 0 2 rfl; have hx := FX1.out.old HX.out) | (go_at_call 38; (with_reducible refine (impl_within.calls _ _ _ true _ (by rw [within_tells]; exact congrArg some (by first | exact decide_eq_true (by omega) | exact decide_eq_false (by omega)))).mono ?_); rintro e w7 ⟨rfl, b8⟩; have FX6 := Aside0.mk (FX1.out.call b8.below); clear b8; clear FX1; clear hcg4_0 hfg4_0 hcg4_1 hfg4_1 hcg4_2 hfg4_2 hx; have hcg4_0 := FX6.out.cell 0 0 rfl rfl; have hfg4_0 := FX6.out.free 0 0 rfl; have hcg4_1 := FX6.out.cell 0 1 rfl rfl; have hfg4_1 := FX6.out.free 0 1 rfl; have hcg4_2 := FX6.out.cell 0 2 rfl rfl; have hfg4_2 := FX6.out.free 0 2 rfl; have hx := FX6.out.old HX.out; have hx2 := fun o => pw_cell_below (below_alloc (Below.refl w7.heap.size w7) o) hx))
  go_region
  clear hx2
  clear hcg4_0 hfg4_0 hcg4_1 hfg4_1 hcg4_2 hfg4_2 hx
  refine YtimlccgpeoaigaaV.gen_then (p := fun W' => ∃ g6, YtimlccgpeoaigaaX.Fx w W' [YtimlccgpeoaigaaX.blk g6 24 #[.int .i64 (wrap64 (Int.tdiv (wrap64 (rd l0 a1)) 5)), .int .i64 (Int.tmod (wrap64 (rd l0 a1)) 5), .int .i64 0], YtimlccgpeoaigaaX.blk g4 24 #[.int .i64 0, .int .i64 0, .int .i64 0]] ∧ g6 = w7.heap.size) ⟨_, (FX6.out.alloc rfl (blk_new _ _) (below_alloc (Below.refl _ _) _)).drew, rfl⟩ ?_
  rintro w6 ⟨g6, fx6, e6⟩
  rw [← e6]
  have FXR := Aside0.mk fx6
  clear fx6 e6 FX6
  have hcg6_0 := FXR.out.cell 0 0 rfl rfl
  have hfg6_0 := FXR.out.free 0 0 rfl
  have hcg6_1 := FXR.out.cell 0 1 rfl rfl
  have hfg6_1 := FXR.out.free 0 1 rfl
  have hcg6_2 := FXR.out.cell 0 2 rfl rfl
  have hfg6_2 := FXR.out.free 0 2 rfl
  have hcg4_0 := FXR.out.cell 1 0 rfl rfl
  have hfg4_0 := FXR.out.free 1 0 rfl
  have hcg4_1 := FXR.out.cell 1 1 rfl rfl
  have hfg4_1 := FXR.out.free 1 1 rfl
  have hcg4_2 := FXR.out.cell 1 2 rfl rfl
  have hfg4_2 := FXR.out.free 1 2 rfl
  have hx := FXR.out.old HX.out
  go_wp2_with (first | (go_at_call 39; (with_reducible refine (impl_hasX.calls _ false _ (by rw [implHasX_tells]; exact congrArg some hkd)).mono ?_); rintro e w10 ⟨rfl, b11⟩; have FX9 := Aside0.mk (FXR.out.call b11.below); clear b11; clear FXR; clear hcg6_0 hfg6_0 hcg6_1 hfg6_1 hcg6_2 hfg6_2 hcg4_0 hfg4_0 hcg4_1 hfg4_1 hcg4_2 hfg4_2 hx; have hcg6_0 := FX9.out.cell 0 0 rfl rfl; have hfg6_0 := FX9.out.free 0 0 rfl; have hcg6_1 := FX9.out.cell 0 1 rfl rfl; have hfg6_1 := FX9.out.free 0 1 rfl; have hcg6_2 := FX9.out.cell 0 2 rfl rfl; have hfg6_2 := FX9.out.free 0 2 rfl; have hcg4_0 := FX9.out.cell 1 0 rfl rfl; have hfg4_0 := FX9.out.free 1 0 rfl; have hcg4_1 := FX9.out.cell 1 1 rfl rfl; have hfg4_1 := FX9.out.free 1 1 rfl; have hcg4_2 := FX9.out.cell 1 2 rfl rfl; have hfg4_2 := FX9.out.free 1 2 rfl; have hx := FX9.out.old HX.out) | (go_at_call 40; (with_reducible refine (impl_OpOk.calls 1 (wrap64 (Int.tdiv (wrap64 (rd l0 a1)) 5)) (Int.tmod (wrap64 (rd l0 a1)) 5) (0) false _ (by rw [implOpOk_tells 1 (by omega)]; exact congrArg some hok)).mono ?_); rintro e w13 ⟨rfl, b14⟩; have FX12 := Aside0.mk (FX9.out.call b14); clear b14; clear FX9; clear hcg6_0 hfg6_0 hcg6_1 hfg6_1 hcg6_2 hfg6_2 hcg4_0 hfg4_0 hcg4_1 hfg4_1 hcg4_2 hfg4_2 hx; have hcg6_0 := FX12.out.cell 0 0 rfl rfl; have hfg6_0 := FX12.out.free 0 0 rfl; have hcg6_1 := FX12.out.cell 0 1 rfl rfl; have hfg6_1 := FX12.out.free 0 1 rfl; have hcg6_2 := FX12.out.cell 0 2 rfl rfl; have hfg6_2 := FX12.out.free 0 2 rfl; have hcg4_0 := FX12.out.cell 1 0 rfl rfl; have hfg4_0 := FX12.out.free 1 0 rfl; have hcg4_1 := FX12.out.cell 1 1 rfl rfl; have hfg4_1 := FX12.out.free 1 1 rfl; have hcg4_2 := FX12.out.cell 1 2 rfl rfl; have hfg4_2 := FX12.out.free 1 2 rfl; have hx := FX12.out.old HX.out) | ((with_reducible refine gate_store (t := 24) (p := 4) rfl ?_); refine store_event (t := 24) (p := 4) (v := ?vo_w16) (w1 := (((w13.setCell ⟨g4, 0, none⟩ (.int .i64 0)).setCell ⟨g4, 1, none⟩ (.int .i64 0)).setCell ⟨g4, 2, none⟩ (.int .i64 0))) ?hg ?ho ?hn ?hr ?_; (case ho => rfl); (case hg => rfl); (case hn => rfl); (case hr => first | (go_simp; done) | (go_simp; rfl)); intro w16 e17; have FX15 : Aside0 (YtimlccgpeoaigaaX.Fx w w16 [YtimlccgpeoaigaaX.blk g6 24 #[.int .i64 (wrap64 (Int.tdiv (wrap64 (rd l0 a1)) 5)), .int .i64 (Int.tmod (wrap64 (rd l0 a1)) 5), .int .i64 0], YtimlccgpeoaigaaX.blk g4 24 #[.int .i64 0, .int .i64 0, .int .i64 0]]) := ⟨by rw [e17]; exact (((FX12.out.store 1 rfl 0 (.int .i64 0) #[.int .i64 0, .int .i64 0, .int .i64 0] rfl).store 1 rfl 1 (.int .i64 0) #[.int .i64 0, .int .i64 0, .int .i64 0] rfl).store 1 rfl 2 (.int .i64 0) #[.int .i64 0, .int .i64 0, .int .i64 0] rfl)⟩; clear e17; clear FX12; clear hcg6_0 hfg6_0 hcg6_1 hfg6_1 hcg6_2 hfg6_2 hcg4_0 hfg4_0 hcg4_1 hfg4_1 hcg4_2 hfg4_2 hx; have hcg6_0 := FX15.out.cell 0 0 rfl rfl; have hfg6_0 := FX15.out.free 0 0 rfl; have hcg6_1 := FX15.out.cell 0 1 rfl rfl; have hfg6_1 := FX15.out.free 0 1 rfl; have hcg6_2 := FX15.out.cell 0 2 rfl rfl; have hfg6_2 := FX15.out.free 0 2 rfl; have hcg4_0 := FX15.out.cell 1 0 rfl rfl; have hfg4_0 := FX15.out.free 1 0 rfl; have hcg4_1 := FX15.out.cell 1 1 rfl rfl; have hfg4_1 := FX15.out.free 1 1 rfl; have hcg4_2 := FX15.out.cell 1 2 rfl rfl; have hfg4_2 := FX15.out.free 1 2 rfl; have hx := FX15.out.old HX.out))
  exact bodyPost_ret (results_ct rfl _ _ g4 24 #[.int .i64 0, .int .i64 0, .int .i64 0] (0, 0) _ rfl (FX15.out.blkOf 1 rfl) Try.underlying24 rfl (by kernel_rfl)) rfl ⟨rfl, FX15.out.below⟩
def impl_UnpackOp.f (l0 : List Int) (a1 : Int) : Option (Int × Int × Int × Int) := some (unpack l0 a1)
theorem impl_UnpackOp.calls (A0 : Option Addr) (c0 : Nat) (l0 : List Int) (a1 : Int) (r1 : Int) (r2 : Int) (r3 : Int) (r4 : Int) (w : World) (hr0 : Kd.C (Kd.int .u8) w A0 l0.length l0) (hc0 : l0.length ≤ c0) (h : impl_UnpackOp.f l0 a1 = some (r1, r2, r3, r4)) :
    Calls Try.prog 12 #[.slice A0 l0.length c0, .int .i64 a1] w fun e w' => e = .returned (.tuple #[.agg #[.int .i64 r1, .int .i64 r2, .int .i64 r3], .int .i64 r4]) ∧ Below w.heap.size w w' := by
  have h' := Option.some.inj h
  clear h
  unfold unpack at h'
  by_cases h0 : a1 < 0
  · rw [if_pos h0] at h'
    simp only [Prod.mk.injEq] at h'
    obtain ⟨rfl, rfl, rfl, rfl⟩ := h'
    exact impl_UnpackOp.u_low A0 c0 l0 a1 w hr0 hc0 h0
  rw [if_neg h0] at h'
  by_cases h1 : (l0.length : Int) ≤ a1
  · rw [if_pos h1] at h'
    simp only [Prod.mk.injEq] at h'
    obtain ⟨rfl, rfl, rfl, rfl⟩ := h'
    exact impl_UnpackOp.u_high A0 c0 l0 a1 w hr0 hc0 (by omega) h1
  rw [if_neg h1] at h'
  by_cases h2 : 1 ≤ wrap64 (Int.tdiv (wrap64 (rd l0 a1)) 5) ∧ wrap64 (Int.tdiv (wrap64 (rd l0 a1)) 5) ≤ 3
  · rw [if_pos h2] at h'
    by_cases h3 : a1 + 1 < (l0.length : Int)
    · rw [if_pos h3] at h'
      by_cases h4 : opB (wrap64 (Int.tdiv (wrap64 (rd l0 a1)) 5)) (Int.tmod (wrap64 (rd l0 a1)) 5) (wrap64 (rd l0 (a1 + 1))) = true
      · rw [if_pos h4] at h'
        simp only [Prod.mk.injEq] at h'
        obtain ⟨rfl, rfl, rfl, rfl⟩ := h'
        exact impl_UnpackOp.u_two_true A0 c0 l0 a1 w hr0 hc0 (by omega) (by omega) (decide_eq_true h2) h3 h4
      · rw [if_neg h4] at h'
        simp only [Prod.mk.injEq] at h'
        obtain ⟨rfl, rfl, rfl, rfl⟩ := h'
        exact impl_UnpackOp.u_two_false A0 c0 l0 a1 w hr0 hc0 (by omega) (by omega) (decide_eq_true h2) h3 (Bool.eq_false_iff.mpr h4)
    · rw [if_neg h3] at h'
      simp only [Prod.mk.injEq] at h'
      obtain ⟨rfl, rfl, rfl, rfl⟩ := h'
      exact impl_UnpackOp.u_short A0 c0 l0 a1 w hr0 hc0 (by omega) (by omega) (decide_eq_true h2) h3
  · rw [if_neg h2] at h'
    by_cases h4 : opB (wrap64 (Int.tdiv (wrap64 (rd l0 a1)) 5)) (Int.tmod (wrap64 (rd l0 a1)) 5) 0 = true
    · rw [if_pos h4] at h'
      simp only [Prod.mk.injEq] at h'
      obtain ⟨rfl, rfl, rfl, rfl⟩ := h'
      exact impl_UnpackOp.u_one_true A0 c0 l0 a1 w hr0 hc0 (by omega) (by omega) (decide_eq_false h2) h4
    · rw [if_neg h4] at h'
      simp only [Prod.mk.injEq] at h'
      obtain ⟨rfl, rfl, rfl, rfl⟩ := h'
      exact impl_UnpackOp.u_one_false A0 c0 l0 a1 w hr0 hc0 (by omega) (by omega) (decide_eq_false h2) (Bool.eq_false_iff.mpr h4)


/-! ### bytes_Equal: function 54 -/
def bytes_Equal.f (l0 : List Int) (l1 : List Int) : Option (Bool) := some ((strOfNums l0).toList == (strOfNums l1).toList)
set_option maxHeartbeats 8000000 in
set_option maxRecDepth 100000 in
theorem bytes_Equal.calls (A0 : Option Addr) (c0 : Nat) (l0 : List Int) (A1 : Option Addr) (c1 : Nat) (l1 : List Int) (r : Bool) (w : World) (hr0 : Kd.C (Kd.int .u8) w A0 l0.length l0) (hc0 : l0.length ≤ c0) (hr1 : Kd.C (Kd.int .u8) w A1 l1.length l1) (hc1 : l1.length ≤ c1) (h : bytes_Equal.f l0 l1 = some r) :
    Calls Try.prog 54 #[.slice A0 l0.length c0, .slice A1 l1.length c1] w fun e w' => e = .returned (.bool r) ∧ Drawn0 w w' := by
  have HR0 := Aside0.mk hr0
  have HC0 := Aside0.mk hc0
  clear hr0 hc0
  have HR1 := Aside0.mk hr1
  have HC1 := Aside0.mk hc1
  clear hr1 hc1
  have H : (some ((strOfNums l0).toList == (strOfNums l1).toList)) = some r := h
  clear h
  obtain rfl := Option.some.inj H
  have hcv3 := Kd.C_string (P := Try.prog) (A := A0) (c := c0) Try.underlying22 Try.underlying5 Try.underlying9 HR0.out
  have hcv4 := Kd.C_string (P := Try.prog) (A := A1) (c := c1) Try.underlying22 Try.underlying5 Try.underlying9 HR1.out
  go_enter Try.func54, Try.ntmps54
  go_wp2
  go_ret
  exact ⟨by first | rfl | (simp; done) | (simp [*]; done), by repeat (first | exact Drawn0.refl _ | apply Drawn0.step)⟩

end Go.Proofs.Ytimlccgpeoaigaa.PFnExactUnpackOps
