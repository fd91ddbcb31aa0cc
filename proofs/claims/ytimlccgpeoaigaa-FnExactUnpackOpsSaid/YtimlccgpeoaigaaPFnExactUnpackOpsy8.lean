-- Written by a program of this session (wip/tools/mkprint2.py over the kit's print); texts of functions that the print does not take are the session's own (ext.py).
import Derived.Test.YtimlccgpeoaigaaPFnExactUnpackOpsy0
import Derived.Test.YtimlccgpeoaigaaPFnExactUnpackOpsy2
import Derived.Test.YtimlccgpeoaigaaPFnExactUnpackOpsy5
import Derived.Test.YtimlccgpeoaigaaPFnExactUnpackOpsy6
import Derived.Test.YtimlccgpeoaigaaPFnExactUnpackOpsy7
namespace Go.Proofs.Ytimlccgpeoaigaa.PFnExactUnpackOps
open Go.RowKit Go.Proofs.YtimlccgpeoaigaaW.PrintWords Go.Proofs.YtimlccgpeoaigaaW.PrintLast Go.Proofs.YtimlccgpeoaigaaW.PrintMore
attribute [local go_sem] max2_int min2_int max_two min_two max_three min_three max_four min_four   -- for this text's walks alone
set_option linter.unusedVariables false
set_option linter.unusedSimpArgs false

/-! ### spec_l17Block: function 50 (by hand) -/

theorem specSum_loop (l : List Int) (hl : l.length ≤ 9223372036854775807) (d : Nat) : ∀ (n k : Nat) (s : Int), n + d = l.length → d < k → spec_SumBytes.l0 k l s (n : Int) = some ((l.drop n).foldl sumStep s) := by
  induction d with
  | zero =>
    intro n k s hn hk
    obtain ⟨k, rfl⟩ : ∃ m, k = m + 1 := ⟨k - 1, by omega⟩
    simp only [spec_SumBytes.l0]
    rw [if_neg (by omega), List.drop_of_length_le (by omega)]
    rfl
  | succ d ih =>
    intro n k s hn hk
    obtain ⟨k, rfl⟩ : ∃ m, k = m + 1 := ⟨k - 1, by omega⟩
    have hlt : n < l.length := by omega
    simp only [spec_SumBytes.l0]
    rw [if_pos (by omega), if_pos (by omega), wrN hlt hl, List.drop_eq_getElem_cons hlt, List.foldl_cons, ih (n + 1) k _ (by omega) (by omega), rd_at hlt]
    rfl
theorem specSum_tells (l : List Int) (hl : l.length ≤ 9223372036854775807) : spec_SumBytes.f (l.length + 1) l = some (sumOf l) := by
  unfold spec_SumBytes.f sumOf
  exact specSum_loop l hl l.length 0 (l.length + 1) 1 (by omega) (by omega)

set_option maxHeartbeats 8000000 in
set_option maxRecDepth 100000 in
theorem spec_l17Block.A (A0 : Option Addr) (c0 : Nat) (l0 : List Int) (w : World) (hr0 : Kd.C (Kd.int .u8) w A0 l0.length l0) (hc0 : l0.length ≤ c0) (hby : ∀ x ∈ l0, 0 ≤ x ∧ x ≤ 255) (h : l0.length < 2) :
    Calls Try.prog 50 #[.slice A0 l0.length c0] w fun e w' => ∃ v0_ : Value, e = .returned (.tuple #[v0_, .int .i64 (-1)]) ∧ Kd.R k24 24 w' w.heap.size (fun _ => True) v0_ ([]) ∧ Below w.heap.size w w' := by
  have b1 : decide (l0.length < 2) = true := decide_eq_true h
  have b2 : decide ((l0.length : Int) < 2) = true := decide_eq_true (by omega)
  clear h hby
  go_enter Try.func50, Try.ntmps50
  go_wp2
  go_ret2
  exact ⟨_, rfl, Kd.R_nil _ _ _ _ _, Below.refl _ _⟩
set_option maxHeartbeats 8000000 in
set_option maxRecDepth 100000 in
theorem spec_l17Block.B (A0 : Option Addr) (c0 : Nat) (l0 : List Int) (w : World) (hr0 : Kd.C (Kd.int .u8) w A0 l0.length l0) (hc0 : l0.length ≤ c0) (hby : ∀ x ∈ l0, 0 ≤ x ∧ x ≤ 255) (h0 : 2 ≤ l0.length) (h1 : ¬ (1 ≤ rd l0 0 ∧ rd l0 0 ≤ 16)) :
    Calls Try.prog 50 #[.slice A0 l0.length c0] w fun e w' => ∃ v0_ : Value, e = .returned (.tuple #[v0_, .int .i64 (-1)]) ∧ Kd.R k24 24 w' w.heap.size (fun _ => True) v0_ ([]) ∧ Below w.heap.size w w' := by
  have hl := Kd.C_max hr0
  have b1 : decide (l0.length < 2) = false := decide_eq_false (by omega)
  have b2 : decide ((l0.length : Int) < 2) = false := decide_eq_false (by omega)
  obtain ⟨ad, e0, hx0⟩ := Kd.at_int hr0 0 (by omega) (by omega)
  obtain ⟨y00, y01⟩ := byte_at hby 0
  obtain ⟨y10, y11⟩ := byte_at hby 1
  obtain ⟨ad', e1, hx1⟩ := Kd.at_int hr0 1 (by omega) (by omega)
  obtain rfl : ad = ad' := by rw [e0] at e1; injection e1
  subst e0
  clear e1
  replace hx0 : w.cell? ad = some (.int .u8 (rd l0 0)) := by rw [← add_nil ad]; exact hx0
  replace hx1 : w.cell? ⟨ad.block, ad.off + 1, none⟩ = some (.int .u8 (rd l0 1)) := by rw [← add_lit ad 1 (by omega)]; exact hx1
  have HX0 := Aside0.mk hx0
  clear hx0
  have HX1 := Aside0.mk hx1
  clear hx1
  have FX := Aside0.mk (YtimlccgpeoaigaaX.Fx.start w)
  clear hby
  have hx0 := HX0.out
  go_enter Try.func50, Try.ntmps50
  go_wp2_with (go_at_call 51; (with_reducible refine (spec_l01In.calls (rd l0 0) 1 16 false _ (by rw [in_tells]; exact congrArg some (decide_eq_false h1))).mono ?_); rintro e w2 ⟨rfl, b3⟩; have FX1 := Aside0.mk (FX.out.call b3.below); clear b3; clear FX; have hx0 := FX1.out.old HX0.out)
  go_ret2
  exact ⟨_, rfl, Kd.R_nil _ _ _ _ _, FX1.out.below⟩
set_option maxHeartbeats 8000000 in
set_option maxRecDepth 100000 in
theorem spec_l17Block.C (A0 : Option Addr) (c0 : Nat) (l0 : List Int) (w : World) (hr0 : Kd.C (Kd.int .u8) w A0 l0.length l0) (hc0 : l0.length ≤ c0) (hby : ∀ x ∈ l0, 0 ≤ x ∧ x ≤ 255) (h0 : 2 ≤ l0.length) (h1 : 1 ≤ rd l0 0 ∧ rd l0 0 ≤ 16) (h2 : (l0.length : Int) < 2 + rd l0 1 + 2) :
    Calls Try.prog 50 #[.slice A0 l0.length c0] w fun e w' => ∃ v0_ : Value, e = .returned (.tuple #[v0_, .int .i64 (-1)]) ∧ Kd.R k24 24 w' w.heap.size (fun _ => True) v0_ ([]) ∧ Below w.heap.size w w' := by
  have hl := Kd.C_max hr0
  have b1 : decide (l0.length < 2) = false := decide_eq_false (by omega)
  have b2 : decide ((l0.length : Int) < 2) = false := decide_eq_false (by omega)
  obtain ⟨ad, e0, hx0⟩ := Kd.at_int hr0 0 (by omega) (by omega)
  obtain ⟨y00, y01⟩ := byte_at hby 0
  obtain ⟨y10, y11⟩ := byte_at hby 1
  obtain ⟨ad', e1, hx1⟩ := Kd.at_int hr0 1 (by omega) (by omega)
  obtain rfl : ad = ad' := by rw [e0] at e1; injection e1
  subst e0
  clear e1
  replace hx0 : w.cell? ad = some (.int .u8 (rd l0 0)) := by rw [← add_nil ad]; exact hx0
  replace hx1 : w.cell? ⟨ad.block, ad.off + 1, none⟩ = some (.int .u8 (rd l0 1)) := by rw [← add_lit ad 1 (by omega)]; exact hx1
  have HX0 := Aside0.mk hx0
  clear hx0
  have HX1 := Aside0.mk hx1
  clear hx1
  have FX := Aside0.mk (YtimlccgpeoaigaaX.Fx.start w)
  clear hby
  have hx0 := HX0.out
  have hx1 := HX1.out
  have q1 : decide ((l0.length : Int) < 2 + rd l0 1 + 2) = true := decide_eq_true h2
  clear h2
  go_enter Try.func50, Try.ntmps50
  go_wp2_with (go_at_call 51; (with_reducible refine (spec_l01In.calls (rd l0 0) 1 16 true _ (by rw [in_tells]; exact congrArg some (decide_eq_true h1))).mono ?_); rintro e w2 ⟨rfl, b3⟩; have FX1 := Aside0.mk (FX.out.call b3.below); clear b3; clear FX; have hx0 := FX1.out.old HX0.out; have hx1 := FX1.out.old HX1.out)
  go_quiet (fail)
  refine YtimlccgpeoaigaaV.gen_then (fun W' => YtimlccgpeoaigaaX.Fx w W' []) (FX1.out.drewN _) ?_
  intro w5 q6
  have FX4 := Aside0.mk q6
  clear q6 FX1
  clear hx0 hx1
  have hx0 := FX4.out.old HX0.out
  have hx1 := FX4.out.old HX1.out
  go_wp2
  go_ret2
  exact ⟨_, rfl, Kd.R_nil _ _ _ _ _, FX4.out.below⟩
set_option maxHeartbeats 8000000 in
set_option maxRecDepth 100000 in
theorem spec_l17Block.D (A0 : Option Addr) (c0 : Nat) (l0 : List Int) (w : World) (hr0 : Kd.C (Kd.int .u8) w A0 l0.length l0) (hc0 : l0.length ≤ c0) (hby : ∀ x ∈ l0, 0 ≤ x ∧ x ≤ 255) (h0 : 2 ≤ l0.length) (h1 : 1 ≤ rd l0 0 ∧ rd l0 0 ≤ 16) (h2 : 2 + rd l0 1 + 2 ≤ (l0.length : Int)) (k : Nat) (s : Int) (tk : List Int) (htk : tk = (l0.take (2 + rd l0 1).toNat)) (hs : spec_SumBytes.f k tk = some s) (hne : s ≠ 256 * rd l0 (2 + rd l0 1) + rd l0 (2 + rd l0 1 + 1)) :
    Calls Try.prog 50 #[.slice A0 l0.length c0] w fun e w' => ∃ v0_ : Value, e = .returned (.tuple #[v0_, .int .i64 (-1)]) ∧ Kd.R k24 24 w' w.heap.size (fun _ => True) v0_ ([]) ∧ Below w.heap.size w w' := by
  have hl := Kd.C_max hr0
  have b1 : decide (l0.length < 2) = false := decide_eq_false (by omega)
  have b2 : decide ((l0.length : Int) < 2) = false := decide_eq_false (by omega)
  obtain ⟨ad, e0, hx0⟩ := Kd.at_int hr0 0 (by omega) (by omega)
  obtain ⟨y00, y01⟩ := byte_at hby 0
  obtain ⟨y10, y11⟩ := byte_at hby 1
  obtain ⟨ad', e1, hx1⟩ := Kd.at_int hr0 1 (by omega) (by omega)
  obtain rfl : ad = ad' := by rw [e0] at e1; injection e1
  subst e0
  clear e1
  replace hx0 : w.cell? ad = some (.int .u8 (rd l0 0)) := by rw [← add_nil ad]; exact hx0
  replace hx1 : w.cell? ⟨ad.block, ad.off + 1, none⟩ = some (.int .u8 (rd l0 1)) := by rw [← add_lit ad 1 (by omega)]; exact hx1
  have HX0 := Aside0.mk hx0
  clear hx0
  have HX1 := Aside0.mk hx1
  clear hx1
  have FX := Aside0.mk (YtimlccgpeoaigaaX.Fx.start w)
  obtain ⟨y20, y21⟩ := byte_at hby (2 + rd l0 1)
  obtain ⟨y30, y31⟩ := byte_at hby (2 + rd l0 1 + 1)
  obtain ⟨i5, hi5, hz5⟩ := Option.map_eq_some_iff.1 info5
  simp only [Prod.mk.injEq] at hz5
  obtain ⟨_, hs5, _⟩ := hz5
  obtain ⟨hsl, hC, hle⟩ := print_take_int (k := .u8) (P := Try.prog) 22 5 Try.underlying22 hi5 hs5 (some ad) c0 l0 (2 + rd l0 1) (by omega) (by omega) hc0
  clear hi5 hs5
  rw [← htk] at hsl hC hle
  clear htk
  obtain ⟨ad2, e2, hx2⟩ := Kd.at_int hr0 (2 + rd l0 1) (by omega) (by omega)
  obtain rfl : ad = ad2 := by injection e2
  clear e2
  obtain ⟨ad2, e2, hx3⟩ := Kd.at_int hr0 (2 + rd l0 1 + 1) (by omega) (by omega)
  obtain rfl : ad = ad2 := by injection e2
  clear e2
  replace hC : Kd.C (Kd.int .u8) w (some ad) tk.length tk := Kd.C_of_reads (h1 := fun _ => rfl) (readsInt_of.1 (hC w (readsInt_of.2 (Kd.reads_of_C hr0))))
  have HX2 := Aside0.mk hx2
  clear hx2
  have HX3 := Aside0.mk hx3
  clear hx3
  have HC := Aside0.mk hC
  clear hC
  have HLE := Aside0.mk hle
  clear hle
  clear hr0
  have hx0 := HX0.out
  have hx1 := HX1.out
  have hx2 := HX2.out
  have hx3 := HX3.out
  have q1 : decide ((l0.length : Int) < 2 + rd l0 1 + 2) = false := decide_eq_false (by omega)
  have HS := Aside0.mk hs
  clear hs hby
  have q2 : (s != 256 * rd l0 (2 + rd l0 1) + rd l0 (2 + rd l0 1 + 1)) = true := bne_iff_ne.mpr hne
  clear hne
  go_enter Try.func50, Try.ntmps50
  go_wp2_with (go_at_call 51; (with_reducible refine (spec_l01In.calls (rd l0 0) 1 16 true _ (by rw [in_tells]; exact congrArg some (decide_eq_true h1))).mono ?_); rintro e w2 ⟨rfl, b3⟩; have FX1 := Aside0.mk (FX.out.call b3.below); clear b3; clear FX; have hx0 := FX1.out.old HX0.out; have hx1 := FX1.out.old HX1.out; have hx2 := FX1.out.old HX2.out; have hx3 := FX1.out.old HX3.out)
  go_quiet ((go_at_call 43; exact Calls.quiet_of ((spec_SumBytes.calls k _ _ tk s _ (Kd.C_drewN (FX1.out.oldC HC.out) _) HLE.out HS.out).mono fun e w' h => ⟨h.1, h.2.out⟩)))
  refine YtimlccgpeoaigaaV.gen_then (fun W' => YtimlccgpeoaigaaX.Fx w W' []) (FX1.out.drewN _) ?_
  intro w5 q6
  have FX4 := Aside0.mk q6
  clear q6 FX1
  clear hx0 hx1 hx2 hx3
  have hx0 := FX4.out.old HX0.out
  have hx1 := FX4.out.old HX1.out
  have hx2 := FX4.out.old HX2.out
  have hx3 := FX4.out.old HX3.out
  go_wp2
  go_ret2
  exact ⟨_, rfl, Kd.R_nil _ _ _ _ _, FX4.out.below⟩
set_option maxHeartbeats 8000000 in
set_option maxRecDepth 100000 in
theorem spec_l17Block.E (A0 : Option Addr) (c0 : Nat) (l0 : List Int) (w : World) (hr0 : Kd.C (Kd.int .u8) w A0 l0.length l0) (hc0 : l0.length ≤ c0) (hby : ∀ x ∈ l0, 0 ≤ x ∧ x ≤ 255) (h0 : 2 ≤ l0.length) (h1 : 1 ≤ rd l0 0 ∧ rd l0 0 ≤ 16) (h2 : 2 + rd l0 1 + 2 ≤ (l0.length : Int)) (k : Nat) (s : Int) (tk : List Int) (htk : tk = (l0.take (2 + rd l0 1).toNat)) (hs : spec_SumBytes.f k tk = some s) (he : s = 256 * rd l0 (2 + rd l0 1) + rd l0 (2 + rd l0 1 + 1)) (r1 : List S24) (r2 : Int) (hres : blockEnd (readOps (rd l0 0).toNat tk 2 []) (2 + rd l0 1) = (r1, r2)) :
    Calls Try.prog 50 #[.slice A0 l0.length c0] w fun e w' => ∃ v0_ : Value, e = .returned (.tuple #[v0_, .int .i64 (r2)]) ∧ Kd.R k24 24 w' w.heap.size (fun _ => True) v0_ (r1) ∧ Below w.heap.size w w' := by
  have hl := Kd.C_max hr0
  have b1 : decide (l0.length < 2) = false := decide_eq_false (by omega)
  have b2 : decide ((l0.length : Int) < 2) = false := decide_eq_false (by omega)
  obtain ⟨ad, e0, hx0⟩ := Kd.at_int hr0 0 (by omega) (by omega)
  obtain ⟨y00, y01⟩ := byte_at hby 0
  obtain ⟨y10, y11⟩ := byte_at hby 1
  obtain ⟨ad', e1, hx1⟩ := Kd.at_int hr0 1 (by omega) (by omega)
  obtain rfl : ad = ad' := by rw [e0] at e1; injection e1
  subst e0
  clear e1
  replace hx0 : w.cell? ad = some (.int .u8 (rd l0 0)) := by rw [← add_nil ad]; exact hx0
  replace hx1 : w.cell? ⟨ad.block, ad.off + 1, none⟩ = some (.int .u8 (rd l0 1)) := by rw [← add_lit ad 1 (by omega)]; exact hx1
  have HX0 := Aside0.mk hx0
  clear hx0
  have HX1 := Aside0.mk hx1
  clear hx1
  have FX := Aside0.mk (YtimlccgpeoaigaaX.Fx.start w)
  obtain ⟨y20, y21⟩ := byte_at hby (2 + rd l0 1)
  obtain ⟨y30, y31⟩ := byte_at hby (2 + rd l0 1 + 1)
  obtain ⟨i5, hi5, hz5⟩ := Option.map_eq_some_iff.1 info5
  simp only [Prod.mk.injEq] at hz5
  obtain ⟨_, hs5, _⟩ := hz5
  obtain ⟨hsl, hC, hle⟩ := print_take_int (k := .u8) (P := Try.prog) 22 5 Try.underlying22 hi5 hs5 (some ad) c0 l0 (2 + rd l0 1) (by omega) (by omega) hc0
  clear hi5 hs5
  rw [← htk] at hsl hC hle
  clear htk
  obtain ⟨ad2, e2, hx2⟩ := Kd.at_int hr0 (2 + rd l0 1) (by omega) (by omega)
  obtain rfl : ad = ad2 := by injection e2
  clear e2
  obtain ⟨ad2, e2, hx3⟩ := Kd.at_int hr0 (2 + rd l0 1 + 1) (by omega) (by omega)
  obtain rfl : ad = ad2 := by injection e2
  clear e2
  replace hC : Kd.C (Kd.int .u8) w (some ad) tk.length tk := Kd.C_of_reads (h1 := fun _ => rfl) (readsInt_of.1 (hC w (readsInt_of.2 (Kd.reads_of_C hr0))))
  have HX2 := Aside0.mk hx2
  clear hx2
  have HX3 := Aside0.mk hx3
  clear hx3
  have HC := Aside0.mk hC
  clear hC
  have HLE := Aside0.mk hle
  clear hle
  clear hr0
  have hx0 := HX0.out
  have hx1 := HX1.out
  have hx2 := HX2.out
  have hx3 := HX3.out
  have q1 : decide ((l0.length : Int) < 2 + rd l0 1 + 2) = false := decide_eq_false (by omega)
  have HS := Aside0.mk hs
  clear hs hby
  have q2 : (s != 256 * rd l0 (2 + rd l0 1) + rd l0 (2 + rd l0 1 + 1)) = false := bne_eq_false_iff_eq.mpr he
  clear he
  have HE := Aside0.mk hres
  clear hres
  go_enter Try.func50, Try.ntmps50
  go_wp2_with (go_at_call 51; (with_reducible refine (spec_l01In.calls (rd l0 0) 1 16 true _ (by rw [in_tells]; exact congrArg some (decide_eq_true h1))).mono ?_); rintro e w2 ⟨rfl, b3⟩; have FX1 := Aside0.mk (FX.out.call b3.below); clear b3; clear FX; have hx0 := FX1.out.old HX0.out; have hx1 := FX1.out.old HX1.out; have hx2 := FX1.out.old HX2.out; have hx3 := FX1.out.old HX3.out)
  go_quiet ((go_at_call 43; exact Calls.quiet_of ((spec_SumBytes.calls k _ _ tk s _ (Kd.C_drewN (FX1.out.oldC HC.out) _) HLE.out HS.out).mono fun e w' h => ⟨h.1, h.2.out⟩)))
  refine YtimlccgpeoaigaaV.gen_then (fun W' => YtimlccgpeoaigaaX.Fx w W' []) (FX1.out.drewN _) ?_
  intro w5 q6
  have FX4 := Aside0.mk q6
  clear q6 FX1
  clear hx0 hx1 hx2 hx3
  have hx0 := FX4.out.old HX0.out
  have hx1 := FX4.out.old HX1.out
  have hx2 := FX4.out.old HX2.out
  have hx3 := FX4.out.old HX3.out
  go_wp2_with ((with_reducible refine gate_dst (N := 51) rfl ?_); refine Kd.R_lit k24 _ 24 ?hg (N := 51) ?hd (xs := ([] : List S24)) (inner := []) (ok := fun _ => True) (okp := fun _ => True) ?hr ?hp (fun _ hk => hk) trivial (Below.refl _ _) (Nat.le_refl _) (by simp) ?_; (case hd => rfl); (case hg => rfl); (case hr => first | (go_simp; done) | (go_simp; rfl)); (case hp => exact (Reps.none _ _)); intro v5 w8 h11 b9 hg_ hn_; clear hg_ hn_; obtain ⟨S10, q12⟩ := FX4.out.laid h11 b9; have FX7 := Aside0.mk q12; clear q12 h11 b9; clear FX4; clear hx0 hx1 hx2 hx3; have hx0 := FX7.out.old HX0.out; have hx1 := FX7.out.old HX1.out; have hx2 := FX7.out.old HX2.out; have hx3 := FX7.out.old HX3.out)
  go_loopg [5, 6, 7] (rd l0 0).toNat (fun gg v5 v6 v7 wr => ∃ (i a : Int) (xs : List S24) (S : Nat → Prop), 0 ≤ i ∧ i ≤ rd l0 0 ∧ Aside0 (rd l0 0 - i ≤ gg) ∧ v7 = .int .i64 i ∧ v6 = .int .i64 a ∧ Aside0 ((xs.length : Int) ≤ i) ∧ Aside0 (blockEnd (readOps (rd l0 0 - i).toNat tk a xs) (2 + rd l0 1) = (r1, r2)) ∧ Aside0 (YtimlccgpeoaigaaX.Fx w wr [YtimlccgpeoaigaaX.row k24 24 w.heap.size S v5 xs]))
  case atStart => exact ⟨0, 2, [], S10, by omega, by omega, ⟨by omega⟩, rfl, rfl, ⟨by simp⟩, ⟨by rw [Int.sub_zero]; exact HE.out⟩, FX7⟩
  case round =>
    clear HE FX7 hx0 hx1 hx2 hx3
    obtain ⟨i, a, xs, S, i0, i1, hg, rfl, rfl, hlen, HE, FX⟩ := hrel
    have hx0 := FX.out.old HX0.out
    have hx2 := FX.out.old HX2.out
    have hx3 := FX.out.old HX3.out
    by_cases hlt : i < rd l0 0
    · obtain ⟨u1, u2, u3, u4, hu⟩ : ∃ u1 u2 u3 u4, unpack tk a = (u1, u2, u3, u4) := ⟨_, _, _, _, rfl⟩
      have HU := Aside0.mk hu
      have HU2 : Aside0 (spec_UnpackOp.f tk a = some (u1, u2, u3, u4)) := ⟨congrArg some hu⟩
      clear hu
      have he := HE.out
      rw [show (rd l0 0 - i).toNat = (rd l0 0 - (i + 1)).toNat + 1 by omega] at he
      by_cases hn : u4 < 0
      · rw [readOps_fail HU.out hn] at he
        have q3 : decide (u4 < 0) = true := decide_eq_true hn
        clear hn
        obtain ⟨rfl, rfl⟩ := Prod.mk.inj he
        clear he
        go_wp2_with (first | (go_at_call 10; (with_reducible refine (spec_UnpackOp.calls _ _ tk a u1 u2 u3 u4 _ (FX.out.oldC HC.out) HLE.out HU2.out).mono ?_); rintro e w2 ⟨rfl, b3⟩; have FX1 := Aside0.mk (FX.out.call b3); clear b3; clear FX; clear hx0 hx2 hx3; have hx0 := FX1.out.old HX0.out; have hx2 := FX1.out.old HX2.out; have hx3 := FX1.out.old HX3.out) | ((with_reducible refine gate_dst (N := 8) rfl ?_); refine box_event ?hg (N := 8) ?hd (cs := #[.int .i64 0, .int .i64 0, .int .i64 0]) (t := 24) ?hr ?_; (case hd => rfl); (case hg => rfl); (case hr => first | (go_simp; done) | (go_simp; rfl)); intro g8 e6 w5 k7 b8; have FX4 := Aside0.mk (FX1.out.alloc e6 k7 b8); clear e6 k7 b8; clear FX1; clear hx0 hx2 hx3; have hcg8_0 := FX4.out.cell 0 0 rfl rfl; have hfg8_0 := FX4.out.free 0 0 rfl; have hcg8_1 := FX4.out.cell 0 1 rfl rfl; have hfg8_1 := FX4.out.free 0 1 rfl; have hcg8_2 := FX4.out.cell 0 2 rfl rfl; have hfg8_2 := FX4.out.free 0 2 rfl; have hx0 := FX4.out.old HX0.out; have hx2 := FX4.out.old HX2.out; have hx3 := FX4.out.old HX3.out) | ((with_reducible refine gate_store (t := 24) (p := 8) rfl ?_); refine store_event (t := 24) (p := 8) (v := ?vo_w10) (w1 := (((w5.setCell ⟨g8, 0, none⟩ (.int .i64 u1)).setCell ⟨g8, 1, none⟩ (.int .i64 u2)).setCell ⟨g8, 2, none⟩ (.int .i64 u3))) ?hg ?ho ?hn ?hr ?_; (case ho => rfl); (case hg => rfl); (case hn => rfl); (case hr => first | (go_simp; done) | (go_simp; rfl)); intro w10 e11; have FX9 : Aside0 (YtimlccgpeoaigaaX.Fx w w10 [YtimlccgpeoaigaaX.blk g8 24 #[.int .i64 u1, .int .i64 u2, .int .i64 u3], YtimlccgpeoaigaaX.row k24 24 w.heap.size S u5 (xs)]) := ⟨by rw [e11]; exact (((FX4.out.store 0 rfl 0 (.int .i64 u1) #[.int .i64 u1, .int .i64 0, .int .i64 0] rfl).store 0 rfl 1 (.int .i64 u2) #[.int .i64 u1, .int .i64 u2, .int .i64 0] rfl).store 0 rfl 2 (.int .i64 u3) #[.int .i64 u1, .int .i64 u2, .int .i64 u3] rfl)⟩; clear e11; clear FX4; clear hcg8_0 hfg8_0 hcg8_1 hfg8_1 hcg8_2 hfg8_2 hx0 hx2 hx3; have hcg8_0 := FX9.out.cell 0 0 rfl rfl; have hfg8_0 := FX9.out.free 0 0 rfl; have hcg8_1 := FX9.out.cell 0 1 rfl rfl; have hfg8_1 := FX9.out.free 0 1 rfl; have hcg8_2 := FX9.out.cell 0 2 rfl rfl; have hfg8_2 := FX9.out.free 0 2 rfl; have hx0 := FX9.out.old HX0.out; have hx2 := FX9.out.old HX2.out; have hx3 := FX9.out.old HX3.out))
        go_ret2
        exact ⟨_, rfl, Kd.R_nil _ _ _ _ _, FX9.out.below⟩
      · rw [readOps_step HU.out hn] at he
        have q3 : decide (u4 < 0) = false := decide_eq_false hn
        clear hn
        have HE2 := Aside0.mk he
        clear he HE
        go_wp2_with (first | (go_at_call 10; (with_reducible refine (spec_UnpackOp.calls _ _ tk a u1 u2 u3 u4 _ (FX.out.oldC HC.out) HLE.out HU2.out).mono ?_); rintro e w13 ⟨rfl, b14⟩; have FX12 := Aside0.mk (FX.out.call b14); clear b14; clear FX; clear hx0 hx2 hx3; have hx0 := FX12.out.old HX0.out; have hx2 := FX12.out.old HX2.out; have hx3 := FX12.out.old HX3.out) | ((with_reducible refine gate_dst (N := 8) rfl ?_); refine box_event ?hg (N := 8) ?hd (cs := #[.int .i64 0, .int .i64 0, .int .i64 0]) (t := 24) ?hr ?_; (case hd => rfl); (case hg => rfl); (case hr => first | (go_simp; done) | (go_simp; rfl)); intro g8 e17 w16 k18 b19; have FX15 := Aside0.mk (FX12.out.alloc e17 k18 b19); clear e17 k18 b19; clear FX12; clear hx0 hx2 hx3; have hcg8_0 := FX15.out.cell 0 0 rfl rfl; have hfg8_0 := FX15.out.free 0 0 rfl; have hcg8_1 := FX15.out.cell 0 1 rfl rfl; have hfg8_1 := FX15.out.free 0 1 rfl; have hcg8_2 := FX15.out.cell 0 2 rfl rfl; have hfg8_2 := FX15.out.free 0 2 rfl; have hx0 := FX15.out.old HX0.out; have hx2 := FX15.out.old HX2.out; have hx3 := FX15.out.old HX3.out) | ((with_reducible refine gate_store (t := 24) (p := 8) rfl ?_); refine store_event (t := 24) (p := 8) (v := ?vo_w21) (w1 := (((w16.setCell ⟨g8, 0, none⟩ (.int .i64 u1)).setCell ⟨g8, 1, none⟩ (.int .i64 u2)).setCell ⟨g8, 2, none⟩ (.int .i64 u3))) ?hg ?ho ?hn ?hr ?_; (case ho => rfl); (case hg => rfl); (case hn => rfl); (case hr => first | (go_simp; done) | (go_simp; rfl)); intro w21 e22; have FX20 : Aside0 (YtimlccgpeoaigaaX.Fx w w21 [YtimlccgpeoaigaaX.blk g8 24 #[.int .i64 u1, .int .i64 u2, .int .i64 u3], YtimlccgpeoaigaaX.row k24 24 w.heap.size S u5 (xs)]) := ⟨by rw [e22]; exact (((FX15.out.store 0 rfl 0 (.int .i64 u1) #[.int .i64 u1, .int .i64 0, .int .i64 0] rfl).store 0 rfl 1 (.int .i64 u2) #[.int .i64 u1, .int .i64 u2, .int .i64 0] rfl).store 0 rfl 2 (.int .i64 u3) #[.int .i64 u1, .int .i64 u2, .int .i64 u3] rfl)⟩; clear e22; clear FX15; clear hcg8_0 hfg8_0 hcg8_1 hfg8_1 hcg8_2 hfg8_2 hx0 hx2 hx3; have hcg8_0 := FX20.out.cell 0 0 rfl rfl; have hfg8_0 := FX20.out.free 0 0 rfl; have hcg8_1 := FX20.out.cell 0 1 rfl rfl; have hfg8_1 := FX20.out.free 0 1 rfl; have hcg8_2 := FX20.out.cell 0 2 rfl rfl; have hfg8_2 := FX20.out.free 0 2 rfl; have hx0 := FX20.out.old HX0.out; have hx2 := FX20.out.old HX2.out; have hx3 := FX20.out.old HX3.out) | ((with_reducible refine gate_builtin (b := .append) (xs := #[.tmp 70, .tmp 72]) rfl ?_); at_builtin; refine Kd.R_append k24 (w0 := w) w.heap.size rfl (.tmp 70) (.tmp 72) 35 24 (.agg #[(.int .i64 0), (.int .i64 0), (.int .i64 0)]) 24 rfl Try.underlying35 info24 rfl (by decide) (by omega) u5 (xs) (⟨u1, u2, u3⟩ : S24) [.int .i64 u1, .int .i64 u2, .int .i64 u3] _ (fun _ => False) (by first | rfl | (go_simp; done) | (go_simp; rfl)) (by first | rfl | (go_simp; done) | (go_simp; rfl)) ?aP (fun _ hk => hk.elim) ?aF (FX20.out.rowFor 1 rfl) FX20.out.below FX20.out.below.size ?aL ?_; (case aP => exact k24_mkM _ _ _ (⟨u1, u2, u3⟩ : S24)); (case aF => exact fun _ hk => .inr hk); (case aL => have := hlen.out; omega); intro v5' w24 h27 hb_ g29 hn_; obtain ⟨S26, q28⟩ := FX20.out.append 1 rfl h27 g29; have FX23 := Aside0.mk q28; clear q28 h27 hb_ g29 hn_; clear FX20; clear hcg8_0 hfg8_0 hcg8_1 hfg8_1 hcg8_2 hfg8_2 hx0 hx2 hx3; have hcg8_0 := FX23.out.cell 0 0 rfl rfl; have hfg8_0 := FX23.out.free 0 0 rfl; have hcg8_1 := FX23.out.cell 0 1 rfl rfl; have hfg8_1 := FX23.out.free 0 1 rfl; have hcg8_2 := FX23.out.cell 0 2 rfl rfl; have hfg8_2 := FX23.out.free 0 2 rfl; have hx0 := FX23.out.old HX0.out; have hx2 := FX23.out.old HX2.out; have hx3 := FX23.out.old HX3.out))
        go_roundg (rd l0 0 - (i + 1)).toNat
        case measure => have := hg.out; omega
        case rel => exact ⟨i + 1, u4, _, _, by omega, by omega, ⟨by omega⟩, by go_num, rfl, ⟨by have := hlen.out; simp; omega⟩, HE2, ⟨(FX23.out.pick [1] (by decide) rfl (fun i j hj => by match i, hj with | 0, hj => cases hj; rfl))⟩⟩
    · have hi : i = rd l0 0 := by omega
      subst hi
      have he := HE.out
      rw [Int.sub_self] at he
      have he' : blockEnd (some (xs, a)) (2 + rd l0 1) = (r1, r2) := he
      clear he HE
      unfold blockEnd at he'
      simp only at he'
      by_cases hn : a = 2 + rd l0 1
      · rw [if_pos hn] at he'
        obtain ⟨rfl, rfl⟩ := Prod.mk.inj he'
        have q3 : (a != 2 + rd l0 1) = false := bne_eq_false_iff_eq.mpr hn
        clear hn he'
        go_wp2
        go_ret2
        exact ⟨_, rfl, FX.out.rowTrue 0 rfl, FX.out.below⟩
      · rw [if_neg hn] at he'
        obtain ⟨rfl, rfl⟩ := Prod.mk.inj he'
        have q3 : (a != 2 + rd l0 1) = true := bne_iff_ne.mpr hn
        clear hn he'
        go_wp2
        go_ret2
        exact ⟨_, rfl, Kd.R_nil _ _ _ _ _, FX.out.below⟩
def spec_l17Block.f (l0 : List Int) : Option (List S24 × Int) := if ∀ x ∈ l0, 0 ≤ x ∧ x ≤ 255 then some (blockS l0) else none
theorem spec_l17Block.calls (A0 : Option Addr) (c0 : Nat) (l0 : List Int) (r1 : List S24) (r2 : Int) (w : World) (hr0 : Kd.C (Kd.int .u8) w A0 l0.length l0) (hc0 : l0.length ≤ c0) (h : spec_l17Block.f l0 = some (r1, r2)) :
    Calls Try.prog 50 #[.slice A0 l0.length c0] w fun e w' => ∃ v0_ : Value, e = .returned (.tuple #[v0_, .int .i64 (r2)]) ∧ Kd.R k24 24 w' w.heap.size (fun _ => True) v0_ (r1) ∧ Below w.heap.size w w' := by
  unfold spec_l17Block.f at h
  by_cases hby : ∀ x ∈ l0, 0 ≤ x ∧ x ≤ 255
  · rw [if_pos hby] at h
    have h' := Option.some.inj h
    clear h
    unfold blockS at h'
    by_cases h0 : l0.length < 2
    · rw [if_pos h0] at h'
      obtain ⟨rfl, rfl⟩ := Prod.mk.inj h'
      exact spec_l17Block.A A0 c0 l0 w hr0 hc0 hby h0
    rw [if_neg h0] at h'
    by_cases h1 : ¬ (1 ≤ rd l0 0 ∧ rd l0 0 ≤ 16)
    · rw [if_pos h1] at h'
      obtain ⟨rfl, rfl⟩ := Prod.mk.inj h'
      exact spec_l17Block.B A0 c0 l0 w hr0 hc0 hby (by omega) h1
    rw [if_neg h1] at h'
    replace h1 := Decidable.not_not.1 h1
    by_cases h2 : (l0.length : Int) < 2 + rd l0 1 + 2
    · rw [if_pos h2] at h'
      obtain ⟨rfl, rfl⟩ := Prod.mk.inj h'
      exact spec_l17Block.C A0 c0 l0 w hr0 hc0 hby (by omega) h1 h2
    rw [if_neg h2] at h'
    have hs := specSum_tells (l0.take (2 + rd l0 1).toNat) (Nat.le_trans (by rw [List.length_take]; exact Nat.min_le_right _ _) (Kd.C_max hr0))
    by_cases h3 : sumOf (l0.take (2 + rd l0 1).toNat) ≠ 256 * rd l0 (2 + rd l0 1) + rd l0 (2 + rd l0 1 + 1)
    · rw [if_pos h3] at h'
      obtain ⟨rfl, rfl⟩ := Prod.mk.inj h'
      exact spec_l17Block.D A0 c0 l0 w hr0 hc0 hby (by omega) h1 (by omega) _ _ _ rfl hs h3
    · rw [if_neg h3] at h'
      exact spec_l17Block.E A0 c0 l0 w hr0 hc0 hby (by omega) h1 (by omega) _ _ _ rfl hs (Decidable.not_not.1 h3) r1 r2 h'
  · rw [if_neg hby] at h
    cases h

/-! ### spec_ScanOps: function 25 (by hand) -/

set_option maxHeartbeats 8000000 in
set_option maxRecDepth 100000 in
theorem spec_ScanOps.A (A0 : Option Addr) (c0 : Nat) (l0 : List Int) (w : World) (hr0 : Kd.C (Kd.int .u8) w A0 l0.length l0) (hc0 : l0.length ≤ c0) (hby : ∀ x ∈ l0, 0 ≤ x ∧ x ≤ 255) (h : 4000 < (l0.length : Int)) :
    Calls Try.prog 25 #[.slice A0 l0.length c0] w fun e w' => ∃ v0_ : Value, e = .returned (.tuple #[v0_, .int .i64 (0), .int .i64 (2)]) ∧ Kd.R k24 24 w' w.heap.size (fun _ => True) v0_ ([]) ∧ Below w.heap.size w w' := by
  have b1 : decide (4000 < (l0.length : Int)) = true := decide_eq_true h
  have b2 : decide (4000 < l0.length) = true := decide_eq_true (by omega)
  clear h hby
  go_enter Try.func25, Try.ntmps25
  go_wp2
  go_ret3
  exact ⟨_, rfl, Kd.R_nil _ _ _ _ _, Below.refl _ _⟩
set_option maxHeartbeats 8000000 in
set_option maxRecDepth 100000 in
theorem spec_ScanOps.B (A0 : Option Addr) (c0 : Nat) (l0 : List Int) (w : World) (hr0 : Kd.C (Kd.int .u8) w A0 l0.length l0) (hc0 : l0.length ≤ c0) (hby : ∀ x ∈ l0, 0 ≤ x ∧ x ≤ 255) (h : ¬ 4000 < (l0.length : Int)) (r1 : List S24 × Int) (r3 : Int) (hres : scanFrom (l0.length + 1) l0 0 [] = r1) (hst : statusOf (l0.drop r1.2.toNat) = r3) :
    Calls Try.prog 25 #[.slice A0 l0.length c0] w fun e w' => ∃ v0_ : Value, e = .returned (.tuple #[v0_, .int .i64 (r1.2), .int .i64 (r3)]) ∧ Kd.R k24 24 w' w.heap.size (fun _ => True) v0_ (r1.1) ∧ Below w.heap.size w w' := by
  have hc0' := Aside0.mk hc0
  have HR := Aside0.mk hr0
  have HBY := Aside0.mk hby
  have hl := Kd.C_max hr0
  have b1 : decide (4000 < (l0.length : Int)) = false := decide_eq_false (by omega)
  have b2 : decide (4000 < l0.length) = false := decide_eq_false (by omega)
  obtain ⟨z0, z1⟩ : 0 ≤ r1.2 ∧ r1.2 ≤ (l0.length : Int) := by rw [← hres]; exact scanFrom_le l0 hby _ _ _ (by omega) (by omega)
  obtain ⟨rs, ra⟩ := r1
  dsimp only at z0 z1 hst ⊢
  have HRES := Aside0.mk hres
  have HST := Aside0.mk hst
  clear hres hst hr0 hby
  have FX := Aside0.mk (YtimlccgpeoaigaaX.Fx.start w)
  go_enter Try.func25, Try.ntmps25
  go_upto_block 0 with (((with_reducible refine gate_dst (N := 14) rfl ?_); refine Kd.R_lit k24 _ 24 ?hg (N := 14) ?hd (xs := ([] : List S24)) (inner := []) (ok := fun _ => True) (okp := fun _ => True) ?hr ?hp (fun _ hk => hk) trivial (Below.refl _ _) (Nat.le_refl _) (by simp) ?_; (case hd => rfl); (case hg => rfl); (case hr => first | (go_simp; done) | (go_simp; rfl)); (case hp => exact (Reps.none _ _)); intro v5 w2 h5 b3 hg_ hn_; clear hg_ hn_; obtain ⟨S4, q6⟩ := FX.out.laid h5 b3; have FX1 := Aside0.mk q6; clear q6 h5 b3; clear FX))
  (try simp only [Act.put, List.setIfInBounds_toArray, List.set_cons_zero, List.set_cons_succ])
  go_cut [5, 6] (fun v5 v6 wc => ∃ S : Nat → Prop, v6 = .int .i64 ra ∧ Aside0 (YtimlccgpeoaigaaX.Fx w wc [YtimlccgpeoaigaaX.row k24 24 w.heap.size S v5 rs]))
  case first =>
    go_wp2
    go_loopg [5, 6] (l0.length + 1) (fun gg v5 v6 wr => ∃ (a : Int) (xs : List S24) (S : Nat → Prop), 0 ≤ a ∧ a ≤ (l0.length : Int) ∧ Aside0 ((l0.length : Int) < a + gg) ∧ v6 = .int .i64 a ∧ Aside0 ((xs.length : Int) ≤ 16 * a) ∧ Aside0 (scanFrom gg l0 a xs = (rs, ra)) ∧ Aside0 (YtimlccgpeoaigaaX.Fx w wr [YtimlccgpeoaigaaX.row k24 24 w.heap.size S v5 xs]))
    case atStart => exact ⟨0, [], S4, by omega, by omega, ⟨by omega⟩, rfl, ⟨by simp⟩, HRES, FX1⟩
    case round =>
      clear HRES FX1
      obtain ⟨a, xs, S, a0, a1, hg, rfl, hlen, HE, FX⟩ := hrel
      have he := HE.out
      clear HE
      obtain ⟨kq, rfl⟩ : ∃ q, gk = q + 1 := ⟨gk - 1, by have := hg.out; omega⟩
      simp only [scanFrom] at he
      by_cases hlt : a < (l0.length : Int)
      · rw [if_neg (show ¬ (l0.length : Int) ≤ a by omega)] at he
        obtain ⟨i5, hi5, hz5⟩ := Option.map_eq_some_iff.1 info5
        simp only [Prod.mk.injEq] at hz5
        obtain ⟨_, hs5, _⟩ := hz5
        obtain ⟨A1, hsl, hA, hC⟩ := print_drop_of (P := Try.prog) (Value.int .u8) 0 22 5 .i64 Try.underlying22 hi5 hs5 A0 c0 l0 a (by omega) (by omega) hc0'.out
        clear hi5 hs5
        have hrl := HR.out
        replace hA : Aside0 (Kd.C (Kd.int .u8) w A1 _ (l0.drop a.toNat)) := ⟨Kd.C_of_reads (h1 := fun _ => rfl) (hA _ (Kd.reads_of_C hrl))⟩
        clear hrl
        have hbt := drop_bytes HBY.out a.toNat
        have hld : ((l0.drop a.toNat).length : Int) = l0.length - a := by rw [List.length_drop]; omega
        generalize hd : l0.drop a.toNat = tl at *
        clear hd
        obtain ⟨ops, m, hb⟩ : ∃ ops m, blockS tl = (ops, m) := ⟨_, _, rfl⟩
        have hok := blockS_ok hbt hb
        have HF : Aside0 (spec_l17Block.f tl = some (ops, m)) := ⟨by unfold spec_l17Block.f; rw [if_pos hbt, hb]⟩
        rw [hb] at he
        clear hb hbt
        dsimp only at he
        replace hC := Aside0.mk hC
        by_cases hm : m < 0
        · rw [if_pos hm] at he
          obtain ⟨rfl, rfl⟩ := Prod.mk.inj he
          clear he
          have q3 : decide (m < 0) = true := decide_eq_true hm
          clear hm hok hld
          go_wp2_with (go_at_call 50; (with_reducible refine (spec_l17Block.calls A1 _ tl ops m _ (FX.out.oldC hA.out) hC.out HF.out).mono ?_); rintro e w2 ⟨vb, rfl, h5, b3⟩; obtain ⟨S4, q6⟩ := FX.out.laid h5 b3; have FX1 := Aside0.mk q6; clear q6 h5 b3; clear FX)
          go_meet
          case rel => exact ⟨_, rfl, ⟨FX1.out.tail⟩⟩
        · rw [if_neg hm] at he
          have HE := Aside0.mk he
          clear he
          have q3 : decide (m < 0) = false := decide_eq_false hm
          obtain ⟨m0, m1, m2⟩ : 4 ≤ m ∧ m ≤ (tl.length : Int) ∧ ops.length ≤ 16 := by omega
          clear hok
          have m3 := Aside0.mk hld
          clear hld
          go_wp2_with (go_at_call 50; (with_reducible refine (spec_l17Block.calls A1 _ tl ops m _ (FX.out.oldC hA.out) hC.out HF.out).mono ?_); rintro e w8 ⟨vb, rfl, h11, b9⟩; obtain ⟨S10, q12⟩ := FX.out.laid h11 b9; have FX7 := Aside0.mk q12; clear q12 h11 b9; clear FX)
          obtain ⟨Ao, co, eo⟩ := Kd.R_slice (FX7.out.rowOf 0 rfl)
          subst eo
          go_loopg [5, 9] ops.length (fun gg v5 v9 wr => ∃ (i : Int) (ys : List S24) (S2 : Nat → Prop), 0 ≤ i ∧ i ≤ (ops.length : Int) ∧ Aside0 ((ops.length : Int) - i ≤ gg) ∧ v9 = .int .i64 i ∧ Aside0 (ys ++ ops.drop i.toNat = xs ++ ops) ∧ Aside0 (YtimlccgpeoaigaaX.Fx w wr [YtimlccgpeoaigaaX.row k24 24 w.heap.size S10 (.slice Ao ops.length co) ops, YtimlccgpeoaigaaX.row k24 24 w.heap.size S2 v5 ys]))
          case atStart => exact ⟨0, xs, _, by omega, by omega, ⟨by omega⟩, rfl, ⟨by simp⟩, FX7⟩
          case round =>
            clear FX7
            obtain ⟨i, ys, S2, i0, i1, hgi, rfl, HY, FX⟩ := hrel
            by_cases hlt : i < (ops.length : Int)
            · have hyl : Aside0 (ys.length ≤ 16 * l0.length + 16) := ⟨by have h1 := congrArg List.length HY.out; have h2 := hlen.out; simp only [List.length_append, List.length_drop] at h1; omega⟩
              have hy := HY.out
              rw [take_elem i0 hlt] at hy
              have HY2 : Aside0 ((ys ++ [(⟨(rd_T24 ops i).f0, (rd_T24 ops i).f1, (rd_T24 ops i).f2⟩ : S24)]) ++ ops.drop (i + 1).toNat = xs ++ ops) := ⟨by rw [List.append_assoc]; exact hy⟩
              clear hy HY
              have q4 : decide (i < (ops.length : Int)) = true := decide_eq_true hlt
              obtain ⟨ad, ea, hx0, hx1, hx2⟩ := at_T24 (Kd.R_reads' (FX.out.rowOf 0 rfl)).2.2 i i0 hlt
              cases ea
              have p1 := eq_true i0
              have p2 := eq_true hlt
              go_wp2_with ((with_reducible refine gate_builtin (b := .append) (xs := #[.tmp 34, .tmp 39]) rfl ?_); at_builtin; refine Kd.R_append k24 (w0 := w) w.heap.size rfl (.tmp 34) (.tmp 39) 35 24 (.agg #[(.int .i64 0), (.int .i64 0), (.int .i64 0)]) 24 rfl Try.underlying35 info24 rfl (by decide) (by omega) u5 (ys) (⟨(rd_T24 ops i).f0, (rd_T24 ops i).f1, (rd_T24 ops i).f2⟩ : S24) [.int .i64 (rd_T24 ops i).f0, .int .i64 (rd_T24 ops i).f1, .int .i64 (rd_T24 ops i).f2] _ (fun _ => False) (by first | rfl | (go_simp; done) | (go_simp; rfl)) (by first | rfl | (go_simp; done) | (go_simp; rfl)) ?aP (fun _ hk => hk.elim) ?aF (FX.out.rowFor 1 rfl) FX.out.below FX.out.below.size ?aL ?_; (case aP => exact k24_mkM _ _ _ (⟨(rd_T24 ops i).f0, (rd_T24 ops i).f1, (rd_T24 ops i).f2⟩ : S24)); (case aF => exact fun _ hk => .inr hk); (case aL => have := hyl.out; omega); intro v5' w14 h17 hb_ g19 hn_; obtain ⟨S16, q18⟩ := FX.out.append 1 rfl h17 g19; have FX13 := Aside0.mk q18; clear q18 h17 hb_ g19 hn_; clear FX)
              go_roundg (ops.length - (i + 1).toNat)
              case measure => have := hgi.out; omega
              case rel => exact ⟨i + 1, _, _, by omega, by omega, ⟨by omega⟩, by go_num, HY2, FX13⟩
            · have hi : i = (ops.length : Int) := by omega
              subst hi
              have hy := HY.out
              rw [show ((ops.length : Int)).toNat = ops.length by omega, List.drop_length, List.append_nil] at hy
              subst hy
              clear HY
              have q4 : decide ((ops.length : Int) < (ops.length : Int)) = false := decide_eq_false (by omega)
              go_wp2
              go_roundg kq
              case measure => have := hg.out; omega
              case rel => exact ⟨a + m, _, _, by omega, by have := m3.out; omega, ⟨by have := hg.out; omega⟩, by first | rfl | (have := m3.out; have e_ : wrap64 (a + m) = a + m := (by unfold wrap64; omega); rw [e_]), ⟨by have := hlen.out; simp; omega⟩, HE, ⟨FX.out.tail⟩⟩
      · rw [if_pos (show (l0.length : Int) ≤ a by omega)] at he
        obtain ⟨rfl, rfl⟩ := Prod.mk.inj he
        clear he
        go_wp2
        go_meet
        case rel => exact ⟨_, rfl, FX⟩
  case rest =>
    clear HRES
    obtain ⟨S, rfl, FX⟩ := hcut
    obtain ⟨i5, hi5, hz5⟩ := Option.map_eq_some_iff.1 info5
    simp only [Prod.mk.injEq] at hz5
    obtain ⟨_, hs5, _⟩ := hz5
    obtain ⟨A1, hsl, hA, hC⟩ := print_drop_of (P := Try.prog) (Value.int .u8) 0 22 5 .i64 Try.underlying22 hi5 hs5 A0 c0 l0 ra (by omega) (by omega) hc0'.out
    clear hi5 hs5
    have hrl := HR.out
    replace hA : Kd.C (Kd.int .u8) w A1 _ (l0.drop ra.toNat) := Kd.C_of_reads (h1 := fun _ => rfl) (hA _ (Kd.reads_of_C hrl))
    clear hrl
    have hbt := drop_bytes HBY.out ra.toNat
    have hst := HST.out
    clear HST
    have hld : ((l0.drop ra.toNat).length : Int) = l0.length - ra := by rw [List.length_drop]; omega
    generalize hd : l0.drop ra.toNat = tl at *
    clear hd hC hld
    unfold statusOf at hst
    by_cases t0 : tl.length = 0
    · rw [if_pos t0] at hst
      subst hst
      have q1 : ((tl.length : Int) == 0) = true := by simp [t0]
      have q2 : (tl.length == 0) = true := by simp [t0]
      clear hA hbt t0
      go_wp2
      go_ret3
      exact ⟨_, rfl, FX.out.rowTrue 0 rfl, FX.out.below⟩
    · rw [if_neg t0] at hst
      have q1 : ((tl.length : Int) == 0) = false := by simp [t0]
      have q2 : (tl.length == 0) = false := by simp [t0]
      by_cases t1 : tl.length < 2
      · rw [if_pos t1] at hst
        subst hst
        have q3 : decide ((tl.length : Int) < 2) = true := decide_eq_true (by omega)
        have q4 : decide (tl.length < 2) = true := decide_eq_true t1
        clear hA hbt t0 t1
        go_wp2
        go_ret3
        exact ⟨_, rfl, FX.out.rowTrue 0 rfl, FX.out.below⟩
      · rw [if_neg t1] at hst
        have q3 : decide ((tl.length : Int) < 2) = false := decide_eq_false (by omega)
        have q4 : decide (tl.length < 2) = false := decide_eq_false t1
        obtain ⟨ad, e0, hx0⟩ := Kd.at_int hA 0 (by omega) (by omega)
        obtain ⟨y00, y01⟩ := byte_at hbt 0
        obtain ⟨y10, y11⟩ := byte_at hbt 1
        obtain ⟨ad', e1, hx1⟩ := Kd.at_int hA 1 (by omega) (by omega)
        obtain rfl : ad = ad' := by rw [e0] at e1; injection e1
        subst e0
        clear e1
        replace hx0 : w.cell? ad = some (.int .u8 (rd tl 0)) := by rw [← add_nil ad]; exact hx0
        replace hx1 : w.cell? ⟨ad.block, ad.off + 1, none⟩ = some (.int .u8 (rd tl 1)) := by rw [← add_lit ad 1 (by omega)]; exact hx1
        have HX0 := Aside0.mk hx0
        have HX1 := Aside0.mk hx1
        clear hx0 hx1 hA hbt
        have hx0 := FX.out.old HX0.out
        have hx1 := FX.out.old HX1.out
        by_cases c1 : 1 ≤ rd tl 0 ∧ rd tl 0 ≤ 16
        · by_cases c2 : 1 ≤ rd tl 1 ∧ rd tl 1 ≤ 32
          · by_cases c3 : (tl.length : Int) < rd tl 1 + 4
            · rw [if_pos ⟨c1.1, c1.2, c2.1, c2.2, c3⟩] at hst
              subst hst
              have q5 : decide ((tl.length : Int) < rd tl 1 + 4) = true := decide_eq_true c3
              go_wp2_with (first | (go_at_call 51; (with_reducible refine (spec_l01In.calls (rd tl 0) 1 16 true _ (by rw [in_tells]; exact congrArg some (by first | exact decide_eq_true (by omega) | exact decide_eq_false (by omega)))).mono ?_); rintro e w21 ⟨rfl, b22⟩; have FX20 := Aside0.mk (FX.out.call b22.below); clear b22; clear FX; clear hx0 hx1; have hx0 := FX20.out.old HX0.out; have hx1 := FX20.out.old HX1.out) | (go_at_call 51; (with_reducible refine (spec_l01In.calls (rd tl 1) 1 32 true _ (by rw [in_tells]; exact congrArg some (by first | exact decide_eq_true (by omega) | exact decide_eq_false (by omega)))).mono ?_); rintro e w24 ⟨rfl, b25⟩; have FX23 := Aside0.mk (FX20.out.call b25.below); clear b25; clear FX20; clear hx0 hx1; have hx0 := FX23.out.old HX0.out; have hx1 := FX23.out.old HX1.out))
              go_ret3
              exact ⟨_, rfl, FX23.out.rowTrue 0 rfl, FX23.out.below⟩
            · rw [if_neg (fun q => c3 q.2.2.2.2)] at hst
              subst hst
              have q5 : decide ((tl.length : Int) < rd tl 1 + 4) = false := decide_eq_false c3
              go_wp2_with (first | (go_at_call 51; (with_reducible refine (spec_l01In.calls (rd tl 0) 1 16 true _ (by rw [in_tells]; exact congrArg some (by first | exact decide_eq_true (by omega) | exact decide_eq_false (by omega)))).mono ?_); rintro e w27 ⟨rfl, b28⟩; have FX26 := Aside0.mk (FX.out.call b28.below); clear b28; clear FX; clear hx0 hx1; have hx0 := FX26.out.old HX0.out; have hx1 := FX26.out.old HX1.out) | (go_at_call 51; (with_reducible refine (spec_l01In.calls (rd tl 1) 1 32 true _ (by rw [in_tells]; exact congrArg some (by first | exact decide_eq_true (by omega) | exact decide_eq_false (by omega)))).mono ?_); rintro e w30 ⟨rfl, b31⟩; have FX29 := Aside0.mk (FX26.out.call b31.below); clear b31; clear FX26; clear hx0 hx1; have hx0 := FX29.out.old HX0.out; have hx1 := FX29.out.old HX1.out))
              go_ret3
              exact ⟨_, rfl, FX29.out.rowTrue 0 rfl, FX29.out.below⟩
          · rw [if_neg (fun q => c2 ⟨q.2.2.1, q.2.2.2.1⟩)] at hst
            subst hst
            go_wp2_with (first | (go_at_call 51; (with_reducible refine (spec_l01In.calls (rd tl 0) 1 16 true _ (by rw [in_tells]; exact congrArg some (by first | exact decide_eq_true (by omega) | exact decide_eq_false (by omega)))).mono ?_); rintro e w33 ⟨rfl, b34⟩; have FX32 := Aside0.mk (FX.out.call b34.below); clear b34; clear FX; clear hx0 hx1; have hx0 := FX32.out.old HX0.out; have hx1 := FX32.out.old HX1.out) | (go_at_call 51; (with_reducible refine (spec_l01In.calls (rd tl 1) 1 32 false _ (by rw [in_tells]; exact congrArg some (by first | exact decide_eq_true (by omega) | exact decide_eq_false (by omega)))).mono ?_); rintro e w36 ⟨rfl, b37⟩; have FX35 := Aside0.mk (FX32.out.call b37.below); clear b37; clear FX32; clear hx0 hx1; have hx0 := FX35.out.old HX0.out; have hx1 := FX35.out.old HX1.out))
            go_ret3
            exact ⟨_, rfl, FX35.out.rowTrue 0 rfl, FX35.out.below⟩
        · rw [if_neg (fun q => c1 ⟨q.1, q.2.1⟩)] at hst
          subst hst
          go_wp2_with (first | (go_at_call 51; (with_reducible refine (spec_l01In.calls (rd tl 0) 1 16 false _ (by rw [in_tells]; exact congrArg some (by first | exact decide_eq_true (by omega) | exact decide_eq_false (by omega)))).mono ?_); rintro e w39 ⟨rfl, b40⟩; have FX38 := Aside0.mk (FX.out.call b40.below); clear b40; clear FX; clear hx0 hx1; have hx0 := FX38.out.old HX0.out; have hx1 := FX38.out.old HX1.out))
          go_ret3
          exact ⟨_, rfl, FX38.out.rowTrue 0 rfl, FX38.out.below⟩
def spec_ScanOps.f (l0 : List Int) : Option (List S24 × Int × Int) := if ∀ x ∈ l0, 0 ≤ x ∧ x ≤ 255 then some (scanS l0) else none
theorem spec_ScanOps.calls (A0 : Option Addr) (c0 : Nat) (l0 : List Int) (r1 : List S24) (r2 r3 : Int) (w : World) (hr0 : Kd.C (Kd.int .u8) w A0 l0.length l0) (hc0 : l0.length ≤ c0) (h : spec_ScanOps.f l0 = some (r1, r2, r3)) :
    Calls Try.prog 25 #[.slice A0 l0.length c0] w fun e w' => ∃ v0_ : Value, e = .returned (.tuple #[v0_, .int .i64 (r2), .int .i64 (r3)]) ∧ Kd.R k24 24 w' w.heap.size (fun _ => True) v0_ (r1) ∧ Below w.heap.size w w' := by
  unfold spec_ScanOps.f at h
  by_cases hby : ∀ x ∈ l0, 0 ≤ x ∧ x ≤ 255
  · rw [if_pos hby] at h
    have h' := Option.some.inj h
    clear h
    unfold scanS at h'
    by_cases h0 : 4000 < (l0.length : Int)
    · rw [if_pos h0] at h'
      simp only [Prod.mk.injEq] at h'
      obtain ⟨rfl, rfl, rfl⟩ := h'
      exact spec_ScanOps.A A0 c0 l0 w hr0 hc0 hby h0
    rw [if_neg h0] at h'
    simp only [Prod.mk.injEq] at h'
    obtain ⟨rfl, rfl, rfl⟩ := h'
    exact spec_ScanOps.B A0 c0 l0 w hr0 hc0 hby h0 _ _ rfl rfl
  · rw [if_neg hby] at h
    cases h

/-! ### spec_l01Same: function 56 -/
def spec_l01Same.l0 : Nat → List Int → List Int → Int → Option (Bool)
  | 0, _, _, _ => none
  | k + 1, x0, x1, x5 => if x5 < (x0.length : Int) then (if 0 ≤ x5 then (if x5 < (x1.length : Int) then (if (rd x0 x5) = (rd x1 x5) then (spec_l01Same.l0 k x0 x1 (wrap64 (x5 + 1))) else (some false)) else (none)) else (none)) else (some true)
def spec_l01Same.f (k : Nat) (l0 : List Int) (l1 : List Int) : Option (Bool) := if (l0.length : Int) = (l1.length : Int) then (spec_l01Same.l0 k l0 l1 0) else (some false)
theorem spec_l01Same.mono_l : ∀ k, (∀ y0 y1 y2, LeO (spec_l01Same.l0 k y0 y1 y2) (spec_l01Same.l0 (k + 1) y0 y1 y2))
  | 0 => fun _ _ _ r h => by simp [spec_l01Same.l0] at h
  | k + 1 => by
    have ih0 := spec_l01Same.mono_l k
    · intro y0 y1 y2
      unfold spec_l01Same.l0
      repeat' first
      | (with_reducible exact ih0 _ _ _)
      | (with_reducible exact LeO.refl _)
      | (with_reducible exact LeO.none _)
      | (with_reducible refine LeO.ite ?_ ?_)
      | (with_reducible refine LeO.bind ?_ (fun _ => ?_))
      | exact ih0 _ _ _
      | exact LeO.none _
      | refine LeO.ite ?_ ?_
      | refine LeO.bind ?_ (fun _ => ?_)
theorem spec_l01Same.mono : ∀ a0 a1 k, LeO (spec_l01Same.f k a0 a1) (spec_l01Same.f (k + 1) a0 a1) := by
  intro a0 a1 k
  have ih0 := spec_l01Same.mono_l k
  unfold spec_l01Same.f
  repeat' first
      | (with_reducible exact ih0 _ _ _)
      | (with_reducible exact LeO.refl _)
      | (with_reducible exact LeO.none _)
      | (with_reducible refine LeO.ite ?_ ?_)
      | (with_reducible refine LeO.bind ?_ (fun _ => ?_))
      | exact ih0 _ _ _
      | exact LeO.none _
      | refine LeO.ite ?_ ?_
      | refine LeO.bind ?_ (fun _ => ?_)
set_option maxHeartbeats 8000000 in
set_option maxRecDepth 100000 in
theorem spec_l01Same.calls (k : Nat) (A0 : Option Addr) (c0 : Nat) (l0 : List Int) (A1 : Option Addr) (c1 : Nat) (l1 : List Int) (r : Bool) (w : World) (hr0 : Kd.C (Kd.int .u8) w A0 l0.length l0) (hc0 : l0.length ≤ c0) (hr1 : Kd.C (Kd.int .u8) w A1 l1.length l1) (hc1 : l1.length ≤ c1) (h : spec_l01Same.f k l0 l1 = some r) :
    Calls Try.prog 56 #[.slice A0 l0.length c0, .slice A1 l1.length c1] w fun e w' => e = .returned (.bool r) ∧ Drawn0 w w' := by
  have HR0 := Aside0.mk hr0
  have HC0 := Aside0.mk hc0
  clear hr0 hc0
  have HR1 := Aside0.mk hr1
  have HC1 := Aside0.mk hc1
  clear hr1 hc1
  have H : (if (l0.length : Int) = (l1.length : Int) then (spec_l01Same.l0 k l0 l1 0) else (some false)) = some r := h
  clear h
  by_cases c3 : (l0.length : Int) = (l1.length : Int)
  · rw [if_pos c3] at H
    have c3b0 : ((l0.length : Int) == (l1.length : Int)) = true := beq_iff_eq.mpr c3
    have c3b1 : ((l0.length : Int) != (l1.length : Int)) = false := bne_eq_false_iff_eq.mpr c3
    have c3b2 : (l0.length == l1.length) = true := by first | simpa using c3 | (simp at c3 ⊢; omega)
    clear c3
    have H' := Aside0.mk H
    clear H
    go_enter Try.func56, Try.ntmps56
    go_wp2
    repeat (go_quiet (fail); try go_wp2)
    go_loopg [5] k (fun kq v5 w' => ∃ (x5_1 : Int), v5 = .int .i64 x5_1 ∧ Aside0 (spec_l01Same.l0 kq l0 l1 x5_1 = some r) ∧ Aside0 (kq ≤ k) ∧ Drawn0 w w')
    case atStart => exact ⟨(0), (by first | rfl | (simp; done) | (simp [*]; done)), H', ⟨Nat.le_refl _⟩, by repeat (first | exact Drawn0.refl _ | apply Drawn0.step)⟩
    case round =>
      clear H'
      try clear c1
      try clear p2
      try clear c3
      try clear c3b0
      try clear c3b1
      try clear c3b2
      obtain ⟨x5_1, rfl, HA, HK1, ⟨m1, rfl⟩⟩ := hrel
      cases gk with
      | zero => exact absurd HA.out (by simp [spec_l01Same.l0])
      | succ k1 =>
        have H := HA.out
        clear HA
        simp only [spec_l01Same.l0] at H
        by_cases c4 : x5_1 < (l0.length : Int)
        · rw [if_pos c4] at H
          have c4b0 : decide (x5_1 < (l0.length : Int)) = true := decide_eq_true c4
          clear c4
          by_cases c5 : 0 ≤ x5_1
          · rw [if_pos c5] at H
            have c5b0 : decide (0 ≤ x5_1) = true := decide_eq_true c5
            clear c5
            by_cases c6 : x5_1 < (l1.length : Int)
            · rw [if_pos c6] at H
              have c6b0 : decide (x5_1 < (l1.length : Int)) = true := decide_eq_true c6
              clear c6
              by_cases c7 : (rd l0 x5_1) = (rd l1 x5_1)
              · rw [if_pos c7] at H
                have c7b0 : ((rd l0 x5_1) == (rd l1 x5_1)) = true := beq_iff_eq.mpr c7
                have c7b1 : ((rd l0 x5_1) != (rd l1 x5_1)) = false := bne_eq_false_iff_eq.mpr c7
                clear c7
                have H' := Aside0.mk H
                clear H
                have p277 : 0 ≤ (x5_1 : Int) := of_decide_eq_true (by first | (with_reducible assumption) | assumption)
                have q277 : x5_1 < (l0.length : Int) := of_decide_eq_true (by first | (with_reducible assumption) | assumption)
                obtain ⟨ad277, e277, hx277_0⟩ := Kd.at_int HR0.out x5_1 p277 q277
                cases e277
                replace p277 := eq_true p277
                replace q277 := eq_true q277
                have p278 : 0 ≤ (x5_1 : Int) := of_decide_eq_true (by first | (with_reducible assumption) | assumption)
                have q278 : x5_1 < (l1.length : Int) := of_decide_eq_true (by first | (with_reducible assumption) | assumption)
                obtain ⟨ad278, e278, hx278_0⟩ := Kd.at_int HR1.out x5_1 p278 q278
                cases e278
                replace p278 := eq_true p278
                replace q278 := eq_true q278
                go_wp2
                repeat (go_quiet (fail); try go_wp2)
                go_roundg k1
                case measure => have := HK1.out; omega
                case rel => exact ⟨(wrap64 (x5_1 + 1)), (by first | rfl | (simp; done) | (simp [*]; done)), H', ⟨by have := HK1.out; omega⟩, by repeat (first | exact Drawn0.refl _ | apply Drawn0.step)⟩
              · rw [if_neg c7] at H
                have c7b0 : ((rd l0 x5_1) == (rd l1 x5_1)) = false := beq_eq_false_iff_ne.mpr c7
                have c7b1 : ((rd l0 x5_1) != (rd l1 x5_1)) = true := bne_iff_ne.mpr c7
                obtain rfl := Option.some.inj H
                have p277 : 0 ≤ (x5_1 : Int) := of_decide_eq_true (by first | (with_reducible assumption) | assumption)
                have q277 : x5_1 < (l0.length : Int) := of_decide_eq_true (by first | (with_reducible assumption) | assumption)
                obtain ⟨ad277, e277, hx277_0⟩ := Kd.at_int HR0.out x5_1 p277 q277
                cases e277
                replace p277 := eq_true p277
                replace q277 := eq_true q277
                have p278 : 0 ≤ (x5_1 : Int) := of_decide_eq_true (by first | (with_reducible assumption) | assumption)
                have q278 : x5_1 < (l1.length : Int) := of_decide_eq_true (by first | (with_reducible assumption) | assumption)
                obtain ⟨ad278, e278, hx278_0⟩ := Kd.at_int HR1.out x5_1 p278 q278
                cases e278
                replace p278 := eq_true p278
                replace q278 := eq_true q278
                go_wp2
                repeat (go_quiet (fail); try go_wp2)
                go_ret
                exact ⟨by first | rfl | (simp; done) | (simp [*]; done), by repeat (first | exact Drawn0.refl _ | apply Drawn0.step)⟩
            · rw [if_neg c6] at H
              exact absurd H (by simp)
          · rw [if_neg c5] at H
            exact absurd H (by simp)
        · rw [if_neg c4] at H
          have c4b0 : decide (x5_1 < (l0.length : Int)) = false := decide_eq_false c4
          clear c4
          obtain rfl := Option.some.inj H
          go_wp2
          repeat (go_quiet (fail); try go_wp2)
          go_ret
          exact ⟨by first | rfl | (simp; done) | (simp [*]; done), by repeat (first | exact Drawn0.refl _ | apply Drawn0.step)⟩
  · rw [if_neg c3] at H
    have c3b0 : ((l0.length : Int) == (l1.length : Int)) = false := beq_eq_false_iff_ne.mpr c3
    have c3b1 : ((l0.length : Int) != (l1.length : Int)) = true := bne_iff_ne.mpr c3
    have c3b2 : (l0.length == l1.length) = false := by first | simpa using c3 | (simp at c3 ⊢; omega)
    obtain rfl := Option.some.inj H
    go_enter Try.func56, Try.ntmps56
    go_wp2
    repeat (go_quiet (fail); try go_wp2)
    go_ret
    exact ⟨by first | rfl | (simp; done) | (simp [*]; done), by repeat (first | exact Drawn0.refl _ | apply Drawn0.step)⟩

/-! ### spec_UnpackOps: function 35 -/
def spec_UnpackOps.f (k : Nat) (l0 : List Int) : Option ((List (S24)) × Bool) := (spec_ScanOps.f l0).bind fun bt279 => (if bt279.2.2 = 0 then ((spec_PackOps.f k bt279.1).bind fun bt284 => (if bt284.2 = true then ((spec_l01Same.f k bt284.1 l0).bind fun t288 => (if t288 = true then (some (bt279.1, true)) else (some (([] : List (S24)), false)))) else (some (([] : List (S24)), false)))) else (some (([] : List (S24)), false)))
theorem spec_UnpackOps.mono : ∀ a0 k, LeO (spec_UnpackOps.f k a0) (spec_UnpackOps.f (k + 1) a0) := by
  intro a0 k
  unfold spec_UnpackOps.f
  repeat' first
      | (with_reducible exact spec_PackOps.mono _ _)
      | (with_reducible exact spec_l01Same.mono _ _ _)
      | (with_reducible exact LeO.refl _)
      | (with_reducible exact LeO.none _)
      | (with_reducible refine LeO.ite ?_ ?_)
      | (with_reducible refine LeO.bind ?_ (fun _ => ?_))
      | exact spec_PackOps.mono _ _
      | exact spec_l01Same.mono _ _ _
      | exact LeO.none _
      | refine LeO.ite ?_ ?_
      | refine LeO.bind ?_ (fun _ => ?_)
set_option maxHeartbeats 8000000 in
set_option maxRecDepth 100000 in
theorem spec_UnpackOps.calls (k : Nat) (A0 : Option Addr) (c0 : Nat) (l0 : List Int) (r1 : List (S24)) (r2 : Bool) (w : World) (hr0 : Kd.C (Kd.int .u8) w A0 l0.length l0) (hc0 : l0.length ≤ c0) (h : spec_UnpackOps.f k l0 = some (r1, r2)) :
    Calls Try.prog 35 #[.slice A0 l0.length c0] w fun e w' => ∃ v0_ : Value, e = .returned (.tuple #[v0_, .bool r2]) ∧ Kd.R k24 24 w' w.heap.size (fun _ => True) v0_ r1 ∧ Below w.heap.size w w' := by
  have HR0 := Aside0.mk hr0
  have HC0 := Aside0.mk hc0
  clear hr0 hc0
  have HB := Aside0.mk (Below.refl w.heap.size w)
  have H : ((spec_ScanOps.f l0).bind fun bt279 => (if bt279.2.2 = 0 then ((spec_PackOps.f k bt279.1).bind fun bt284 => (if bt284.2 = true then ((spec_l01Same.f k bt284.1 l0).bind fun t288 => (if t288 = true then (some (bt279.1, true)) else (some (([] : List (S24)), false)))) else (some (([] : List (S24)), false)))) else (some (([] : List (S24)), false)))) = some (r1, r2) := h
  clear h
  replace H := Option.bind_eq_some_iff.mp H
  obtain ⟨⟨t279, t280, t281⟩, A20, H⟩ := H
  replace H : (if t281 = 0 then ((spec_PackOps.f k t279).bind fun bt284 => (if bt284.2 = true then ((spec_l01Same.f k bt284.1 l0).bind fun t288 => (if t288 = true then (some (t279, true)) else (some (([] : List (S24)), false)))) else (some (([] : List (S24)), false)))) else (some (([] : List (S24)), false))) = some (r1, r2) := H
  have A2 := Aside0.mk A20
  clear A20
  by_cases c3 : t281 = 0
  · rw [if_pos c3] at H
    have c3b0 : (t281 == 0) = true := beq_iff_eq.mpr c3
    have c3b1 : (t281 != 0) = false := bne_eq_false_iff_eq.mpr c3
    clear c3
    replace H := Option.bind_eq_some_iff.mp H
    obtain ⟨⟨t284, t285⟩, A40, H⟩ := H
    replace H : (if t285 = true then ((spec_l01Same.f k t284 l0).bind fun t288 => (if t288 = true then (some (t279, true)) else (some (([] : List (S24)), false)))) else (some (([] : List (S24)), false))) = some (r1, r2) := H
    have A4 := Aside0.mk A40
    clear A40
    by_cases c5 : t285 = true
    · subst c5
      have H1 : ((spec_l01Same.f k t284 l0).bind fun t288 => (if t288 = true then (some (t279, true)) else (some (([] : List (S24)), false)))) = some (r1, r2) := by rw [if_pos rfl] at H; exact H
      clear H
      have H := H1
      clear H1
      replace H := Option.bind_eq_some_iff.mp H
      obtain ⟨t288, A60, H⟩ := H
      replace H : (if t288 = true then (some (t279, true)) else (some (([] : List (S24)), false))) = some (r1, r2) := H
      have A6 := Aside0.mk A60
      clear A60
      by_cases c7 : t288 = true
      · subst c7
        have H1 : (some (t279, true)) = some (r1, r2) := by rw [if_pos rfl] at H; exact H
        clear H
        have H := H1
        clear H1
        simp only [Option.some.injEq, Prod.mk.injEq] at H
        obtain ⟨rfl, rfl⟩ := H
        go_enter Try.func35, Try.ntmps35
        go_wp2_with (first | ((with_reducible refine gate_callee (f := 25) rfl ?_); refine goesL_ (some 11) rfl rfl Try.func25 (by kernel_rfl) rfl #[.slice A0 l0.length c0] rfl (by (try simp only [List.map_toArray, List.map_cons, List.map_nil]); first | done | rfl | (simp only [List.length_drop, List.length_take]; rfl)) ?_; (with_reducible refine (spec_ScanOps.calls _ _ l0 t279 t280 t281 _ ?side1 ?side2 A2.out).mono ?_); (case side1 => repeat (first | exact HR0.out | (with_reducible refine Kd.C_alloc ?_ _) | (with_reducible refine Kd.C_drewN ?_ _) | (with_reducible refine Kd.C_drew ?_))); (case side2 => exact HC0.out); rintro e w8 ⟨v282, rfl, ho0, hb⟩; refine ⟨_, rfl, ?_⟩; have n0_ := Aside0.mk (Kd.R_lower ho0 (below_size (by repeat (first | (with_reducible first | exact HB.out | apply below_alloc | apply pw_below_drewN | apply below_drew1) | exact HB.out)))); have n1_ := Aside0.mk (below_step (by repeat (first | (with_reducible first | exact HB.out | apply below_alloc | apply pw_below_drewN | apply below_drew1) | exact HB.out)) hb); clear HB; have HO283 := n0_; have HB := n1_; clear n0_ n1_; (try clear hb); (try clear hb2); (try clear hk); (try clear hi); (try clear ho0); obtain ⟨Ao9, co9, eo9⟩ := Kd.R_slice HO283.out; subst eo9) | ((with_reducible refine gate_callee (f := 16) rfl ?_); refine goesL_ (some 19) rfl rfl Try.func16 (by kernel_rfl) rfl #[.slice Ao9 t279.length co9] rfl (by (try simp only [List.map_toArray, List.map_cons, List.map_nil]); first | done | rfl | (simp only [List.length_drop, List.length_take]; rfl)) ?_; (with_reducible refine (spec_PackOps.calls k _ _ t279 t284 true _ ?side1 ?side2 A4.out).mono ?_); (case side1 => repeat (first | exact (Kd.R_reads' HO283.out).2.2 | (with_reducible refine Kd.C_alloc ?_ _) | (with_reducible refine Kd.C_drewN ?_ _) | (with_reducible refine Kd.C_drew ?_))); (case side2 => exact (Kd.R_reads' HO283.out).2.1); rintro e w10 ⟨v286, rfl, ho0, hb⟩; refine ⟨_, rfl, ?_⟩; have n0_ := Aside0.mk (Kd.R_below (by (with_reducible repeat (first | apply Kd.R_alloc | apply Kd.R_drewN | apply Kd.R_drew)); exact HO283.out) hb); have n1_ := Aside0.mk (Kd.R_lower ho0 (below_size (by repeat (first | (with_reducible first | exact HB.out | apply below_alloc | apply pw_below_drewN | apply below_drew1) | exact HB.out)))); have n2_ := Aside0.mk (below_step (by repeat (first | (with_reducible first | exact HB.out | apply below_alloc | apply pw_below_drewN | apply below_drew1) | exact HB.out)) hb); clear HO283; clear HB; have HO283 := n0_; have HO287 := n1_; have HB := n2_; clear n0_ n1_ n2_; (try clear hb); (try clear hb2); (try clear hk); (try clear hi); (try clear ho0); obtain ⟨Ao11, co11, eo11⟩ := Kd.R_slice HO287.out; subst eo11) | (go_at_call 56; (with_reducible refine (spec_l01Same.calls k _ _ t284 _ _ l0 true _ ?side1 ?side2 ?side3 ?side4 A6.out).mono ?_); (case side1 => repeat (first | exact (Kd.R_reads' HO287.out).2.2 | (with_reducible refine Kd.C_alloc ?_ _) | (with_reducible refine Kd.C_drewN ?_ _) | (with_reducible refine Kd.C_drew ?_))); (case side2 => exact (Kd.R_reads' HO287.out).2.1); (case side3 => repeat (first | exact (Kd.C_below HR0.out HB.out) | (with_reducible refine Kd.C_alloc ?_ _) | (with_reducible refine Kd.C_drewN ?_ _) | (with_reducible refine Kd.C_drew ?_))); (case side4 => exact HC0.out); rintro e w' ⟨rfl, ⟨nd, rfl⟩⟩))
        go_ret2
        exact ⟨_, by first | rfl | (simp [errW_none, errW_some] <;> rfl) | (simp [*, errW_none, errW_some] <;> rfl), by (with_reducible repeat (first | apply Kd.R_alloc | apply Kd.R_drewN | apply Kd.R_drew)); exact HO283.out, by repeat (first | (with_reducible first | exact HB.out | apply below_alloc | apply pw_below_drewN | apply below_drew1) | exact HB.out)⟩
      · replace c7 := Bool.eq_false_iff.mpr c7
        subst c7
        have H1 : (some (([] : List (S24)), false)) = some (r1, r2) := by rw [if_neg (show ¬ (false = true) by decide)] at H; exact H
        clear H
        have H := H1
        clear H1
        simp only [Option.some.injEq, Prod.mk.injEq] at H
        obtain ⟨rfl, rfl⟩ := H
        go_enter Try.func35, Try.ntmps35
        go_wp2_with (first | ((with_reducible refine gate_callee (f := 25) rfl ?_); refine goesL_ (some 11) rfl rfl Try.func25 (by kernel_rfl) rfl #[.slice A0 l0.length c0] rfl (by (try simp only [List.map_toArray, List.map_cons, List.map_nil]); first | done | rfl | (simp only [List.length_drop, List.length_take]; rfl)) ?_; (with_reducible refine (spec_ScanOps.calls _ _ l0 t279 t280 t281 _ ?side1 ?side2 A2.out).mono ?_); (case side1 => repeat (first | exact HR0.out | (with_reducible refine Kd.C_alloc ?_ _) | (with_reducible refine Kd.C_drewN ?_ _) | (with_reducible refine Kd.C_drew ?_))); (case side2 => exact HC0.out); rintro e w12 ⟨v282, rfl, ho0, hb⟩; refine ⟨_, rfl, ?_⟩; have n0_ := Aside0.mk (Kd.R_lower ho0 (below_size (by repeat (first | (with_reducible first | exact HB.out | apply below_alloc | apply pw_below_drewN | apply below_drew1) | exact HB.out)))); have n1_ := Aside0.mk (below_step (by repeat (first | (with_reducible first | exact HB.out | apply below_alloc | apply pw_below_drewN | apply below_drew1) | exact HB.out)) hb); clear HB; have HO283 := n0_; have HB := n1_; clear n0_ n1_; (try clear hb); (try clear hb2); (try clear hk); (try clear hi); (try clear ho0); obtain ⟨Ao13, co13, eo13⟩ := Kd.R_slice HO283.out; subst eo13) | ((with_reducible refine gate_callee (f := 16) rfl ?_); refine goesL_ (some 19) rfl rfl Try.func16 (by kernel_rfl) rfl #[.slice Ao13 t279.length co13] rfl (by (try simp only [List.map_toArray, List.map_cons, List.map_nil]); first | done | rfl | (simp only [List.length_drop, List.length_take]; rfl)) ?_; (with_reducible refine (spec_PackOps.calls k _ _ t279 t284 true _ ?side1 ?side2 A4.out).mono ?_); (case side1 => repeat (first | exact (Kd.R_reads' HO283.out).2.2 | (with_reducible refine Kd.C_alloc ?_ _) | (with_reducible refine Kd.C_drewN ?_ _) | (with_reducible refine Kd.C_drew ?_))); (case side2 => exact (Kd.R_reads' HO283.out).2.1); rintro e w14 ⟨v286, rfl, ho0, hb⟩; refine ⟨_, rfl, ?_⟩; have n0_ := Aside0.mk (Kd.R_below (by (with_reducible repeat (first | apply Kd.R_alloc | apply Kd.R_drewN | apply Kd.R_drew)); exact HO283.out) hb); have n1_ := Aside0.mk (Kd.R_lower ho0 (below_size (by repeat (first | (with_reducible first | exact HB.out | apply below_alloc | apply pw_below_drewN | apply below_drew1) | exact HB.out)))); have n2_ := Aside0.mk (below_step (by repeat (first | (with_reducible first | exact HB.out | apply below_alloc | apply pw_below_drewN | apply below_drew1) | exact HB.out)) hb); clear HO283; clear HB; have HO283 := n0_; have HO287 := n1_; have HB := n2_; clear n0_ n1_ n2_; (try clear hb); (try clear hb2); (try clear hk); (try clear hi); (try clear ho0); obtain ⟨Ao15, co15, eo15⟩ := Kd.R_slice HO287.out; subst eo15) | (go_at_call 56; (with_reducible refine (spec_l01Same.calls k _ _ t284 _ _ l0 false _ ?side1 ?side2 ?side3 ?side4 A6.out).mono ?_); (case side1 => repeat (first | exact (Kd.R_reads' HO287.out).2.2 | (with_reducible refine Kd.C_alloc ?_ _) | (with_reducible refine Kd.C_drewN ?_ _) | (with_reducible refine Kd.C_drew ?_))); (case side2 => exact (Kd.R_reads' HO287.out).2.1); (case side3 => repeat (first | exact (Kd.C_below HR0.out HB.out) | (with_reducible refine Kd.C_alloc ?_ _) | (with_reducible refine Kd.C_drewN ?_ _) | (with_reducible refine Kd.C_drew ?_))); (case side4 => exact HC0.out); rintro e w' ⟨rfl, ⟨nd, rfl⟩⟩))
        go_ret2
        exact ⟨_, by first | rfl | (simp [errW_none, errW_some] <;> rfl) | (simp [*, errW_none, errW_some] <;> rfl), by first | exact Kd.R_nil _ _ _ _ _ | exact Kd.N_nil _ _ _ _ _ | exact Kd.V_nil _ _ _ _ _ | exact Kd.Q_nil _ _ _ _ _ | exact Kd.S_nil _ _ _ _ _, by repeat (first | (with_reducible first | exact HB.out | apply below_alloc | apply pw_below_drewN | apply below_drew1) | exact HB.out)⟩
    · replace c5 := Bool.eq_false_iff.mpr c5
      subst c5
      have H1 : (some (([] : List (S24)), false)) = some (r1, r2) := by rw [if_neg (show ¬ (false = true) by decide)] at H; exact H
      clear H
      have H := H1
      clear H1
      simp only [Option.some.injEq, Prod.mk.injEq] at H
      obtain ⟨rfl, rfl⟩ := H
      go_enter Try.func35, Try.ntmps35
      go_wp2_with (first | ((with_reducible refine gate_callee (f := 25) rfl ?_); refine goesL_ (some 11) rfl rfl Try.func25 (by kernel_rfl) rfl #[.slice A0 l0.length c0] rfl (by (try simp only [List.map_toArray, List.map_cons, List.map_nil]); first | done | rfl | (simp only [List.length_drop, List.length_take]; rfl)) ?_; (with_reducible refine (spec_ScanOps.calls _ _ l0 t279 t280 t281 _ ?side1 ?side2 A2.out).mono ?_); (case side1 => repeat (first | exact HR0.out | (with_reducible refine Kd.C_alloc ?_ _) | (with_reducible refine Kd.C_drewN ?_ _) | (with_reducible refine Kd.C_drew ?_))); (case side2 => exact HC0.out); rintro e w16 ⟨v282, rfl, ho0, hb⟩; refine ⟨_, rfl, ?_⟩; have n0_ := Aside0.mk (Kd.R_lower ho0 (below_size (by repeat (first | (with_reducible first | exact HB.out | apply below_alloc | apply pw_below_drewN | apply below_drew1) | exact HB.out)))); have n1_ := Aside0.mk (below_step (by repeat (first | (with_reducible first | exact HB.out | apply below_alloc | apply pw_below_drewN | apply below_drew1) | exact HB.out)) hb); clear HB; have HO283 := n0_; have HB := n1_; clear n0_ n1_; (try clear hb); (try clear hb2); (try clear hk); (try clear hi); (try clear ho0); obtain ⟨Ao17, co17, eo17⟩ := Kd.R_slice HO283.out; subst eo17) | ((with_reducible refine gate_callee (f := 16) rfl ?_); refine goesL_ (some 19) rfl rfl Try.func16 (by kernel_rfl) rfl #[.slice Ao17 t279.length co17] rfl (by (try simp only [List.map_toArray, List.map_cons, List.map_nil]); first | done | rfl | (simp only [List.length_drop, List.length_take]; rfl)) ?_; (with_reducible refine (spec_PackOps.calls k _ _ t279 t284 false _ ?side1 ?side2 A4.out).mono ?_); (case side1 => repeat (first | exact (Kd.R_reads' HO283.out).2.2 | (with_reducible refine Kd.C_alloc ?_ _) | (with_reducible refine Kd.C_drewN ?_ _) | (with_reducible refine Kd.C_drew ?_))); (case side2 => exact (Kd.R_reads' HO283.out).2.1); rintro e w18 ⟨v286, rfl, ho0, hb⟩; refine ⟨_, rfl, ?_⟩; have n0_ := Aside0.mk (Kd.R_below (by (with_reducible repeat (first | apply Kd.R_alloc | apply Kd.R_drewN | apply Kd.R_drew)); exact HO283.out) hb); have n1_ := Aside0.mk (Kd.R_lower ho0 (below_size (by repeat (first | (with_reducible first | exact HB.out | apply below_alloc | apply pw_below_drewN | apply below_drew1) | exact HB.out)))); have n2_ := Aside0.mk (below_step (by repeat (first | (with_reducible first | exact HB.out | apply below_alloc | apply pw_below_drewN | apply below_drew1) | exact HB.out)) hb); clear HO283; clear HB; have HO283 := n0_; have HO287 := n1_; have HB := n2_; clear n0_ n1_ n2_; (try clear hb); (try clear hb2); (try clear hk); (try clear hi); (try clear ho0)))
      go_ret2
      exact ⟨_, by first | rfl | (simp [errW_none, errW_some] <;> rfl) | (simp [*, errW_none, errW_some] <;> rfl), by first | exact Kd.R_nil _ _ _ _ _ | exact Kd.N_nil _ _ _ _ _ | exact Kd.V_nil _ _ _ _ _ | exact Kd.Q_nil _ _ _ _ _ | exact Kd.S_nil _ _ _ _ _, by repeat (first | (with_reducible first | exact HB.out | apply below_alloc | apply pw_below_drewN | apply below_drew1) | exact HB.out)⟩
  · rw [if_neg c3] at H
    have c3b0 : (t281 == 0) = false := beq_eq_false_iff_ne.mpr c3
    have c3b1 : (t281 != 0) = true := bne_iff_ne.mpr c3
    simp only [Option.some.injEq, Prod.mk.injEq] at H
    obtain ⟨rfl, rfl⟩ := H
    go_enter Try.func35, Try.ntmps35
    go_wp2_with (first | ((with_reducible refine gate_callee (f := 25) rfl ?_); refine goesL_ (some 11) rfl rfl Try.func25 (by kernel_rfl) rfl #[.slice A0 l0.length c0] rfl (by (try simp only [List.map_toArray, List.map_cons, List.map_nil]); first | done | rfl | (simp only [List.length_drop, List.length_take]; rfl)) ?_; (with_reducible refine (spec_ScanOps.calls _ _ l0 t279 t280 t281 _ ?side1 ?side2 A2.out).mono ?_); (case side1 => repeat (first | exact HR0.out | (with_reducible refine Kd.C_alloc ?_ _) | (with_reducible refine Kd.C_drewN ?_ _) | (with_reducible refine Kd.C_drew ?_))); (case side2 => exact HC0.out); rintro e w19 ⟨v282, rfl, ho0, hb⟩; refine ⟨_, rfl, ?_⟩; have n0_ := Aside0.mk (Kd.R_lower ho0 (below_size (by repeat (first | (with_reducible first | exact HB.out | apply below_alloc | apply pw_below_drewN | apply below_drew1) | exact HB.out)))); have n1_ := Aside0.mk (below_step (by repeat (first | (with_reducible first | exact HB.out | apply below_alloc | apply pw_below_drewN | apply below_drew1) | exact HB.out)) hb); clear HB; have HO283 := n0_; have HB := n1_; clear n0_ n1_; (try clear hb); (try clear hb2); (try clear hk); (try clear hi); (try clear ho0)))
    go_ret2
    exact ⟨_, by first | rfl | (simp [errW_none, errW_some] <;> rfl) | (simp [*, errW_none, errW_some] <;> rfl), by first | exact Kd.R_nil _ _ _ _ _ | exact Kd.N_nil _ _ _ _ _ | exact Kd.V_nil _ _ _ _ _ | exact Kd.Q_nil _ _ _ _ _ | exact Kd.S_nil _ _ _ _ _, by repeat (first | (with_reducible first | exact HB.out | apply below_alloc | apply pw_below_drewN | apply below_drew1) | exact HB.out)⟩

end Go.Proofs.Ytimlccgpeoaigaa.PFnExactUnpackOps
