-- Written by a program of this session (wip/tools/mkprint2.py over the kit's print); texts of functions that the print does not take are the session's own (ext.py).
import Derived.Test.YtimlccgpeoaigaaPFnExactScanOpsy0
import Derived.Test.YtimlccgpeoaigaaPFnExactScanOpsy2
import Derived.Test.YtimlccgpeoaigaaPFnExactScanOpsy3
import Derived.Test.YtimlccgpeoaigaaPFnExactScanOpsy4
import Derived.Test.YtimlccgpeoaigaaPFnExactScanOpsy5
namespace Go.Proofs.Ytimlccgpeoaigaa.PFnExactScanOps
open Go.RowKit Go.Proofs.YtimlccgpeoaigaaW.PrintWords Go.Proofs.YtimlccgpeoaigaaW.PrintLast Go.Proofs.YtimlccgpeoaigaaW.PrintMore
attribute [local go_sem] max2_int min2_int max_two min_two max_three min_three max_four min_four   -- for this text's walks alone
set_option linter.unusedVariables false
set_option linter.unusedSimpArgs false

/-! ### impl_ScanOps: function 26 (by hand) -/
theorem toList_nums (a : List Int) : (strOfNums a).toList = a.map fun n => UInt8.ofNat n.toNat := by
  rw [Go.Lib.strOfNums_toList]
  rfl
theorem nums_inj : ∀ {a b : List Int}, (∀ x ∈ a, 0 ≤ x ∧ x ≤ 255) → (∀ x ∈ b, 0 ≤ x ∧ x ≤ 255) → a.map (fun n => UInt8.ofNat n.toNat) = b.map (fun n => UInt8.ofNat n.toNat) → a = b
  | [], [], _, _, _ => rfl
  | [], _ :: _, _, _, h => by simp at h
  | _ :: _, [], _, _, h => by simp at h
  | x :: a, y :: b, ha, hb, h => by
    simp only [List.map_cons, List.cons.injEq] at h
    have h1 := congrArg UInt8.toNat h.1
    have hx := ha x (by simp)
    have hy := hb y (by simp)
    simp only [UInt8.toNat_ofNat'] at h1
    rw [nums_inj (fun z hz => ha z (by simp [hz])) (fun z hz => hb z (by simp [hz])) h.2, show x = y by omega]
theorem bytesEq_tells {a b : List Int} (ha : ∀ x ∈ a, 0 ≤ x ∧ x ≤ 255) (hb : ∀ x ∈ b, 0 ≤ x ∧ x ≤ 255) : bytes_Equal.f a b = some (decide (a = b)) := by
  unfold bytes_Equal.f
  rw [toList_nums, toList_nums, Option.some.injEq]
  by_cases h : a = b
  · subst h
    simp
  · rw [decide_eq_false h]
    exact beq_eq_false_iff_ne.2 (fun e => h (nums_inj ha hb e))
theorem implSum_loop (l : List Int) (hl : l.length ≤ 9223372036854775807) (d : Nat) : ∀ (n k : Nat) (s : Int), n + d = l.length → d < k → impl_SumBytes.l0 k s l (l.length : Int) (n : Int) = some ((l.drop n).foldl sumStep s) := by
  induction d with
  | zero =>
    intro n k s hn hk
    obtain ⟨k, rfl⟩ : ∃ m, k = m + 1 := ⟨k - 1, by omega⟩
    simp only [impl_SumBytes.l0]
    rw [if_neg (by omega), List.drop_of_length_le (by omega)]
    rfl
  | succ d ih =>
    intro n k s hn hk
    obtain ⟨k, rfl⟩ : ∃ m, k = m + 1 := ⟨k - 1, by omega⟩
    have hlt : n < l.length := by omega
    simp only [impl_SumBytes.l0]
    rw [if_pos (by omega), if_pos (by omega), if_pos (by omega), wrN hlt hl, List.drop_eq_getElem_cons hlt, List.foldl_cons, ih (n + 1) k _ (by omega) (by omega), rd_at hlt]
    rfl
theorem implSum_tells (l : List Int) (hl : l.length ≤ 9223372036854775807) (k : Nat) (hk : l.length < k) : impl_SumBytes.f k l = some (sumOf l) := by
  unfold impl_SumBytes.f sumOf
  exact implSum_loop l hl l.length 0 k 1 (by omega) hk
theorem sum_lt : ∀ (l : List Int) (s : Int), (∀ x ∈ l, 0 ≤ x ∧ x ≤ 255) → 0 ≤ s → s < 65521 → 0 ≤ l.foldl sumStep s ∧ l.foldl sumStep s < 65521
  | [], s, _, h0, h1 => ⟨h0, h1⟩
  | x :: l, s, hb, h0, h1 => by
    have hx := hb x (by simp)
    have h2 : sumStep s x = (31 * s + x) % 65521 := by
      unfold sumStep
      rw [show wrap64 (31 * s) = 31 * s by unfold wrap64; omega, show wrap64 x = x by unfold wrap64; omega, show wrap64 (31 * s + x) = 31 * s + x by unfold wrap64; omega, Int.tmod_eq_emod_of_nonneg (by omega)]
    rw [List.foldl_cons, h2]
    exact sum_lt l _ (fun z hz => hb z (by simp [hz])) (by omega) (by omega)
theorem sumOf_lt (l : List Int) (hb : ∀ x ∈ l, 0 ≤ x ∧ x ≤ 255) : 0 ≤ sumOf l ∧ sumOf l < 65521 := sum_lt l 1 hb (by omega) (by omega)
theorem sealed_tells (l : List Int) (hl : l.length ≤ 5000) (k : Nat) (hk : l.length < k) : impl_sealed.f k l = some (l ++ [(sumOf l / 256) % 256, sumOf l % 256]) := by
  unfold impl_sealed.f
  rw [implSum_tells l (by omega) k hk]
  simp only [Option.bind_some, slices_Clone_byte_byte.f]
  rw [if_pos (by omega)]
  simp only [Option.bind_some, List.length_cons, List.length_nil]
  rw [if_pos (by omega)]
theorem take_two {l : List Int} {e : Int} (h0 : 0 ≤ e) (h : e + 2 ≤ (l.length : Int)) : l.take (e + 2).toNat = l.take e.toNat ++ [rd l e, rd l (e + 1)] := by
  obtain ⟨n, rfl⟩ : ∃ n : Nat, e = (n : Int) := ⟨e.toNat, by omega⟩
  have h1 : n < l.length := by omega
  have h2 : n + 1 < l.length := by omega
  rw [show ((n : Int) + 2).toNat = n + 1 + 1 by omega, Int.toNat_natCast, List.take_succ_eq_append_getElem h2, List.take_succ_eq_append_getElem h1, List.append_assoc]
  rw [show (n : Int) + 1 = ((n + 1 : Nat) : Int) by omega, rd_at h1, rd_at h2]
  rfl
theorem take_bytes {l : List Int} (h : ∀ x ∈ l, 0 ≤ x ∧ x ≤ 255) (n : Nat) : ∀ x ∈ l.take n, 0 ≤ x ∧ x ≤ 255 := fun x hx => h x (List.mem_of_mem_take hx)
/-- The program's block: as the reference's, with 0 where there is none. -/
def blockI (l : List Int) : List S24 × Int := if (blockS l).2 < 0 then ([], 0) else blockS l
/-- What the program's loop over a block's operations answers. -/
def loopEnd (l : List Int) (e : Int) : Option (List S24 × Int) → List S24 × Int
  | none => ([], 0)
  | some (xs, b) => if b = e then (if sumOf (l.take e.toNat) = 256 * rd l e + rd l (e + 1) then (xs, e + 2) else ([], 0)) else ([], 0)
theorem implBlock_loop (l : List Int) (hby : ∀ x ∈ l, 0 ≤ x ∧ x ≤ 255) (hl : l.length ≤ 4000) (e n : Int) (he0 : 2 ≤ e) (he : e + 2 ≤ (l.length : Int)) (hn : n ≤ 16) (d : Nat) : ∀ (k : Nat) (i a : Int) (acc : List S24), 0 ≤ i → i + d = n → acc.length ≤ i → l.length + 2 + d < k →
    impl_block.l0 k l e acc a n i = some (loopEnd l e (readOps d (l.take e.toNat) a acc)) := by
  induction d with
  | zero =>
    intro k i a acc h0 hi hac hk
    obtain ⟨k, rfl⟩ : ∃ m, k = m + 1 := ⟨k - 1, by omega⟩
    simp only [impl_block.l0, readOps, loopEnd]
    rw [if_neg (by omega)]
    by_cases ha : a = e
    · have hlt : (l.take e.toNat).length ≤ l.length := by rw [List.length_take]; exact Nat.min_le_right _ _
      rw [if_pos ha, if_pos ha, if_pos (by omega), if_pos (by omega), sealed_tells _ (by omega) k (by omega)]
      have hw : wrap64 (e + 2) = e + 2 := by unfold wrap64; omega
      have hs := sumOf_lt _ (take_bytes hby e.toNat)
      have y1 := byte_at hby e
      have y2 := byte_at hby (e + 1)
      simp only [Option.bind_some, hw]
      rw [if_pos (by omega), if_pos (by omega), bytesEq_tells (fun x hx => by
        rw [List.mem_append] at hx
        rcases hx with hx | hx
        · exact take_bytes hby _ x hx
        · simp only [List.mem_cons, List.not_mem_nil, or_false] at hx
          rcases hx with rfl | rfl <;> omega) (take_bytes hby _), take_two (by omega) he]
      simp only [Option.bind_some, decide_eq_true_eq]
      have hiff : (l.take e.toNat ++ [sumOf (l.take e.toNat) / 256 % 256, sumOf (l.take e.toNat) % 256] = l.take e.toNat ++ [rd l e, rd l (e + 1)]) ↔ sumOf (l.take e.toNat) = 256 * rd l e + rd l (e + 1) := by
        rw [List.append_right_inj]
        simp only [List.cons.injEq, and_true]
        omega
      by_cases hq : sumOf (l.take e.toNat) = 256 * rd l e + rd l (e + 1)
      · rw [if_pos (hiff.2 hq), if_pos hq]
      · rw [if_neg (fun q => hq (hiff.1 q)), if_neg hq]
    · rw [if_neg ha, if_neg ha]
  | succ d ih =>
    intro k i a acc h0 hi hac hk
    obtain ⟨k, rfl⟩ : ∃ m, k = m + 1 := ⟨k - 1, by omega⟩
    obtain ⟨u1, u2, u3, u4, hu⟩ : ∃ u1 u2 u3 u4, unpack (l.take e.toNat) a = (u1, u2, u3, u4) := ⟨_, _, _, _, rfl⟩
    simp only [impl_block.l0, impl_UnpackOp.f, hu, Option.bind_some]
    rw [if_pos (by omega), if_pos (by omega), if_pos (by omega)]
    by_cases hn : u4 < 0
    · rw [if_pos hn, readOps_fail hu hn]
      rfl
    · rw [if_neg hn, readOps_step hu hn, if_pos (by omega), show wrap64 (i + 1) = i + 1 by unfold wrap64; omega]
      exact ih k (i + 1) u4 _ (by omega) (by omega) (by simp; omega) (by omega)
theorem implBlock_tells (l : List Int) (hby : ∀ x ∈ l, 0 ≤ x ∧ x ≤ 255) (hl : l.length ≤ 4000) : impl_block.f 4100 l = some (blockI l) := by
  have y0 := byte_at hby 0
  have y1 := byte_at hby 1
  have w0 : wrap64 (rd l 0) = rd l 0 := by unfold wrap64; omega
  have w1 : wrap64 (rd l 1) = rd l 1 := by unfold wrap64; omega
  have w2 : wrap64 (2 + rd l 1) = 2 + rd l 1 := by unfold wrap64; omega
  have w3 : wrap64 (rd l 1 + 4) = rd l 1 + 4 := by unfold wrap64; omega
  unfold impl_block.f blockI blockS
  rw [show (4100 : Nat) = 4099 + 1 from rfl]
  simp only [w0, w1, w2, w3, within_tells, impl_block.j0, Option.bind_some]
  by_cases h0 : l.length < 2
  · rw [if_pos (by omega), if_pos h0]
    simp
  rw [if_neg (by omega), if_neg h0, if_pos (by omega)]
  by_cases h1 : 1 ≤ rd l 0 ∧ rd l 0 ≤ 16
  · simp only [h1, and_self, decide_true, reduceIte, not_true, if_false]
    rw [if_pos (by omega)]
    by_cases h2 : (l.length : Int) < 2 + rd l 1 + 2
    · rw [if_pos h2, if_pos (by simp; omega)]
      simp
    · rw [if_neg h2, if_neg (by simp; omega), if_pos (by omega), if_pos (by omega), implBlock_loop l hby hl (2 + rd l 1) (rd l 0) (by omega) (by omega) (by omega) (rd l 0).toNat 4099 0 2 [] (by omega) (by omega) (by simp) (by omega)]
      by_cases h3 : sumOf (l.take (2 + rd l 1).toNat) = 256 * rd l (2 + rd l 1) + rd l (2 + rd l 1 + 1)
      · rw [if_neg (show ¬ (sumOf (l.take (2 + rd l 1).toNat) ≠ 256 * rd l (2 + rd l 1) + rd l (2 + rd l 1 + 1)) from fun q => q h3)]
        rcases hr : readOps (rd l 0).toNat (l.take (2 + rd l 1).toNat) 2 [] with _ | ⟨xs, b⟩
        · simp [loopEnd, blockEnd]
        · by_cases hb : b = 2 + rd l 1
          · simp only [loopEnd, blockEnd, if_pos hb, if_pos h3]
            rw [if_neg (by omega)]
          · simp [loopEnd, blockEnd, hb]
      · rw [if_pos h3]
        rcases hr : readOps (rd l 0).toNat (l.take (2 + rd l 1).toNat) 2 [] with _ | ⟨xs, b⟩
        · simp [loopEnd]
        · by_cases hb : b = 2 + rd l 1
          · simp [loopEnd, hb, h3]
          · simp [loopEnd, hb]
  · simp only [h1, decide_false, Bool.false_eq_true, reduceIte, not_false_eq_true]
    simp
theorem scan_fail {l : List Int} {a : Int} {n : Nat} {acc : List S24} (h : (blockS (l.drop a.toNat)).2 < 0) : scanFrom (n + 1) l a acc = (acc, a) := by
  simp only [scanFrom, if_pos h]
  split <;> rfl
theorem scan_ok {l : List Int} {a : Int} {n : Nat} {acc : List S24} (h : ¬ (blockS (l.drop a.toNat)).2 < 0) : scanFrom (n + 1) l a acc = scanFrom n l (a + (blockS (l.drop a.toNat)).2) (acc ++ (blockS (l.drop a.toNat)).1) := by
  simp only [scanFrom, if_neg h]
  rw [if_neg]
  intro q
  rw [List.drop_of_length_le (by omega)] at h
  exact h (by decide)

set_option maxHeartbeats 8000000 in
set_option maxRecDepth 100000 in
theorem impl_ScanOps.A (A0 : Option Addr) (c0 : Nat) (l0 : List Int) (w : World) (hr0 : Kd.C (Kd.int .u8) w A0 l0.length l0) (hc0 : l0.length ≤ c0) (hby : ∀ x ∈ l0, 0 ≤ x ∧ x ≤ 255) (h : 4000 < (l0.length : Int)) :
    Calls Try.prog 26 #[.slice A0 l0.length c0] w fun e w' => ∃ v0_ : Value, e = .returned (.tuple #[v0_, .int .i64 (0), .int .i64 (2)]) ∧ Kd.R k24 24 w' w.heap.size (fun _ => True) v0_ ([]) ∧ Below w.heap.size w w' := by
  have b1 : decide (4000 < (l0.length : Int)) = true := decide_eq_true h
  have b2 : decide (4000 < l0.length) = true := decide_eq_true (by omega)
  clear h hby
  go_enter Try.func26, Try.ntmps26
  go_wp2
  go_ret3
  exact ⟨_, rfl, Kd.R_nil _ _ _ _ _, Below.refl _ _⟩
set_option maxHeartbeats 8000000 in
set_option maxRecDepth 100000 in
theorem impl_ScanOps.B (A0 : Option Addr) (c0 : Nat) (l0 : List Int) (w : World) (hr0 : Kd.C (Kd.int .u8) w A0 l0.length l0) (hc0 : l0.length ≤ c0) (hby : ∀ x ∈ l0, 0 ≤ x ∧ x ≤ 255) (h : ¬ 4000 < (l0.length : Int)) (r1 : List S24 × Int) (r3 : Int) (hres : scanFrom (l0.length + 1) l0 0 [] = r1) (hst : statusOf (l0.drop r1.2.toNat) = r3) :
    Calls Try.prog 26 #[.slice A0 l0.length c0] w fun e w' => ∃ v0_ : Value, e = .returned (.tuple #[v0_, .int .i64 (r1.2), .int .i64 (r3)]) ∧ Kd.R k24 24 w' w.heap.size (fun _ => True) v0_ (r1.1) ∧ Below w.heap.size w w' := by
  have hc0' := Aside0.mk hc0
  have HR := Aside0.mk hr0
  have HBY := Aside0.mk hby
  have hl := Kd.C_max hr0
  have b1 : decide (4000 < (l0.length : Int)) = false := decide_eq_false (by omega)
  have b2 : decide (4000 < l0.length) = false := decide_eq_false (by omega)
  obtain ⟨z0, z1⟩ : 0 ≤ r1.2 ∧ r1.2 ≤ (l0.length : Int) := by rw [← hres]; exact scanFrom_le l0 hby _ _ _ (by omega) (by omega)
  obtain ⟨rs, ra⟩ := r1
  dsimp only at z0 z1 hst ⊢
  have HRES := Aside0.mk hres
  have HST := Aside0.mk hst
  clear hres hst hr0 hby
  have FX := Aside0.mk (YtimlccgpeoaigaaX.Fx.start w)
  go_enter Try.func26, Try.ntmps26
  go_upto_block 0 with (((with_reducible refine gate_dst (N := 13) rfl ?_); refine Kd.R_lit k24 _ 24 ?hg (N := 13) ?hd (xs := ([] : List S24)) (inner := []) (ok := fun _ => True) (okp := fun _ => True) ?hr ?hp (fun _ hk => hk) trivial (Below.refl _ _) (Nat.le_refl _) (by simp) ?_; (case hd => rfl); (case hg => rfl); (case hr => first | (go_simp; done) | (go_simp; rfl)); (case hp => exact (Reps.none _ _)); intro v5 w2 h5 b3 hg_ hn_; clear hg_ hn_; obtain ⟨S4, q6⟩ := FX.out.laid h5 b3; have FX1 := Aside0.mk q6; clear q6 h5 b3; clear FX))
  (try simp only [Act.put, List.setIfInBounds_toArray, List.set_cons_zero, List.set_cons_succ])
  go_cut [5, 6] (fun v5 v6 wc => ∃ S : Nat → Prop, v6 = .int .i64 ra ∧ Aside0 (YtimlccgpeoaigaaX.Fx w wc [YtimlccgpeoaigaaX.row k24 24 w.heap.size S v5 rs]))
  case first =>
    go_wp2
    go_loopg [5, 6] (l0.length + 1) (fun gg v5 v6 wr => ∃ (a : Int) (xs : List S24) (S : Nat → Prop), 0 ≤ a ∧ a ≤ (l0.length : Int) ∧ Aside0 ((l0.length : Int) < a + gg) ∧ v6 = .int .i64 a ∧ Aside0 ((xs.length : Int) ≤ 16 * a) ∧ Aside0 (scanFrom gg l0 a xs = (rs, ra)) ∧ Aside0 (YtimlccgpeoaigaaX.Fx w wr [YtimlccgpeoaigaaX.row k24 24 w.heap.size S v5 xs]))
    case atStart => exact ⟨0, [], S4, by omega, by omega, ⟨by omega⟩, rfl, ⟨by simp⟩, HRES, FX1⟩
    case round =>
      clear HRES FX1
      obtain ⟨a, xs, S, a0, a1, hg, rfl, hlen, HE, FX⟩ := hrel
      have he := HE.out
      clear HE
      obtain ⟨kq, rfl⟩ : ∃ q, gk = q + 1 := ⟨gk - 1, by have := hg.out; omega⟩
      have hsf := @scan_fail l0 a kq xs
      have hso := @scan_ok l0 a kq xs
      obtain ⟨i5, hi5, hz5⟩ := Option.map_eq_some_iff.1 info5
      simp only [Prod.mk.injEq] at hz5
      obtain ⟨_, hs5, _⟩ := hz5
      obtain ⟨A1, hsl, hA, hC⟩ := print_drop_of (P := Try.prog) (Value.int .u8) 0 22 5 .i64 Try.underlying22 hi5 hs5 A0 c0 l0 a (by omega) (by omega) hc0'.out
      clear hi5 hs5
      have hrl := HR.out
      replace hA : Aside0 (Kd.C (Kd.int .u8) w A1 _ (l0.drop a.toNat)) := ⟨Kd.C_of_reads (h1 := fun _ => rfl) (hA _ (Kd.reads_of_C hrl))⟩
      clear hrl
      have hbt := drop_bytes HBY.out a.toNat
      have hld : ((l0.drop a.toNat).length : Int) = l0.length - a := by rw [List.length_drop]; omega
      generalize hd : l0.drop a.toNat = tl at *
      clear hd
      obtain ⟨os, m, hb⟩ : ∃ ops m, blockS tl = (ops, m) := ⟨_, _, rfl⟩
      have hok := blockS_ok hbt hb
      have hi := implBlock_tells tl hbt (by omega)
      unfold blockI at hi
      rw [hb] at hi hsf hso
      clear hb hbt
      dsimp only at hi hsf hso
      replace hC := Aside0.mk hC
      by_cases hm : m < 0
      · rw [if_pos hm] at hi
        rw [hsf hm] at he
        have HF := Aside0.mk hi
        clear hi hsf hso hm hok hld
        obtain ⟨rfl, rfl⟩ := Prod.mk.inj he
        clear he
        go_wp2_with (go_at_call 52; (with_reducible refine (impl_block.calls 4100 A1 _ tl ([] : List S24) 0 _ (FX.out.oldC hA.out) hC.out HF.out).mono ?_); rintro e w2 ⟨vb, rfl, h5, b3⟩; obtain ⟨S4, q6⟩ := FX.out.laid h5 b3; have FX1 := Aside0.mk q6; clear q6 h5 b3; clear FX)
        go_meet
        case rel => exact ⟨_, rfl, ⟨FX1.out.tail⟩⟩
      · rw [if_neg hm] at hi
        rw [hso hm] at he
        have HF := Aside0.mk hi
        have HE := Aside0.mk he
        obtain ⟨m0, m1, m2⟩ : 4 ≤ m ∧ m ≤ (tl.length : Int) ∧ os.length ≤ 16 := by omega
        have q3 : (m == 0) = false := beq_eq_false_iff_ne.2 (by omega)
        clear he hi hsf hso hm hok
        have m3 := Aside0.mk hld
        clear hld
        have hyl : Aside0 (xs.length + os.length ≤ 16 * l0.length + 16) := ⟨by have h1 := hlen.out; have h2 := m3.out; omega⟩
        go_wp2_with (first | (go_at_call 52; (with_reducible refine (impl_block.calls 4100 A1 _ tl os m _ (FX.out.oldC hA.out) hC.out HF.out).mono ?_); rintro e w8 ⟨vb, rfl, h11, b9⟩; obtain ⟨S10, q12⟩ := FX.out.laid h11 b9; have FX7 := Aside0.mk q12; clear q12 h11 b9; clear FX; obtain ⟨Ao, co, eo⟩ := Kd.R_slice (FX7.out.rowOf 0 rfl); subst eo) | ((with_reducible refine gate_builtin (b := .append) (xs := #[.tmp 23, .tmp 24]) rfl ?_); at_builtin; refine Kd.R_append_rows k24 (w0 := w) w.heap.size rfl (.tmp 23) (.tmp 24) 35 24 (.agg #[(.int .i64 0), (.int .i64 0), (.int .i64 0)]) 24 rfl Try.underlying35 info24 rfl (by decide) (by omega) u5 xs os _ _ _ (fun k_ => (S k_ ∨ w8.heap.size ≤ k_)) (fun _ => False) (by first | rfl | (go_simp; done) | (go_simp; rfl)) (by first | rfl | (go_simp; done) | (go_simp; rfl)) (FX7.out.rowFor 1 rfl) ?aR (fun _ _ h => h) (fun _ h => h.elim) (fun _ hk => .inr hk) FX7.out.below FX7.out.below.size ?aL ?_; (case aR => exact (Kd.R_reads' (FX7.out.rowOf 0 rfl)).2.2); (case aL => have := hyl.out; omega); intro v5' w13 h16 hb_ g17 hn_; obtain ⟨S15, q18⟩ := FX7.out.append 1 rfl h16 g17; have FX14 := Aside0.mk q18; clear q18 h16 hb_ g17 hn_))
        go_roundg kq
        case measure => have := hg.out; omega
        case rel => exact ⟨a + m, _, _, by omega, by have := m3.out; omega, ⟨by have := hg.out; omega⟩, by first | rfl | (have := m3.out; have e_ : wrap64 (a + m) = a + m := (by unfold wrap64; omega); rw [e_]), ⟨by have := hlen.out; simp; omega⟩, HE, ⟨FX14.out.tail⟩⟩
  case rest =>
    clear HRES
    obtain ⟨S, rfl, FX⟩ := hcut
    obtain ⟨i5, hi5, hz5⟩ := Option.map_eq_some_iff.1 info5
    simp only [Prod.mk.injEq] at hz5
    obtain ⟨_, hs5, _⟩ := hz5
    obtain ⟨A1, hsl, hA, hC⟩ := print_drop_of (P := Try.prog) (Value.int .u8) 0 22 5 .i64 Try.underlying22 hi5 hs5 A0 c0 l0 ra (by omega) (by omega) hc0'.out
    clear hi5 hs5
    have hrl := HR.out
    replace hA : Kd.C (Kd.int .u8) w A1 _ (l0.drop ra.toNat) := Kd.C_of_reads (h1 := fun _ => rfl) (hA _ (Kd.reads_of_C hrl))
    clear hrl
    have hbt := drop_bytes HBY.out ra.toNat
    have hst := HST.out
    clear HST
    have hld : ((l0.drop ra.toNat).length : Int) = l0.length - ra := by rw [List.length_drop]; omega
    generalize hd : l0.drop ra.toNat = tl at *
    clear hd hC hld
    unfold statusOf at hst
    by_cases t0 : tl.length = 0
    · rw [if_pos t0] at hst
      subst hst
      have q1 : ((tl.length : Int) == 0) = true := by simp [t0]
      have q2 : (tl.length == 0) = true := by simp [t0]
      clear hA hbt t0
      go_wp2
      go_ret3
      exact ⟨_, rfl, FX.out.rowTrue 0 rfl, FX.out.below⟩
    · rw [if_neg t0] at hst
      have q1 : ((tl.length : Int) == 0) = false := by simp [t0]
      have q2 : (tl.length == 0) = false := by simp [t0]
      by_cases t1 : tl.length < 2
      · rw [if_pos t1] at hst
        subst hst
        have q3 : decide ((tl.length : Int) < 2) = true := decide_eq_true (by omega)
        have q4 : decide (tl.length < 2) = true := decide_eq_true t1
        clear hA hbt t0 t1
        go_wp2
        go_ret3
        exact ⟨_, rfl, FX.out.rowTrue 0 rfl, FX.out.below⟩
      · rw [if_neg t1] at hst
        have q3 : decide ((tl.length : Int) < 2) = false := decide_eq_false (by omega)
        have q4 : decide (tl.length < 2) = false := decide_eq_false t1
        obtain ⟨ad, e0, hx0⟩ := Kd.at_int hA 0 (by omega) (by omega)
        obtain ⟨y00, y01⟩ := byte_at hbt 0
        obtain ⟨y10, y11⟩ := byte_at hbt 1
        obtain ⟨ad', e1, hx1⟩ := Kd.at_int hA 1 (by omega) (by omega)
        obtain rfl : ad = ad' := by rw [e0] at e1; injection e1
        subst e0
        clear e1
        replace hx0 : w.cell? ad = some (.int .u8 (rd tl 0)) := by rw [← add_nil ad]; exact hx0
        replace hx1 : w.cell? ⟨ad.block, ad.off + 1, none⟩ = some (.int .u8 (rd tl 1)) := by rw [← add_lit ad 1 (by omega)]; exact hx1
        have HX0 := Aside0.mk hx0
        have HX1 := Aside0.mk hx1
        clear hx0 hx1 hA hbt
        have hx0 := FX.out.old HX0.out
        have hx1 := FX.out.old HX1.out
        by_cases c1 : 1 ≤ rd tl 0 ∧ rd tl 0 ≤ 16
        · by_cases c2 : 1 ≤ rd tl 1 ∧ rd tl 1 ≤ 32
          · by_cases c3 : (tl.length : Int) < rd tl 1 + 4
            · rw [if_pos ⟨c1.1, c1.2, c2.1, c2.2, c3⟩] at hst
              subst hst
              have q5 : decide ((tl.length : Int) < rd tl 1 + 4) = true := decide_eq_true c3
              go_wp2_with (first | (go_at_call 38; (with_reducible refine (impl_within.calls (rd tl 0) 1 16 true _ (by rw [within_tells]; exact congrArg some (by first | exact decide_eq_true (by omega) | exact decide_eq_false (by omega)))).mono ?_); rintro e w20 ⟨rfl, b21⟩; have FX19 := Aside0.mk (FX.out.call b21.below); clear b21; clear FX; clear hx0 hx1; have hx0 := FX19.out.old HX0.out; have hx1 := FX19.out.old HX1.out) | (go_at_call 38; (with_reducible refine (impl_within.calls (rd tl 1) 1 32 true _ (by rw [within_tells]; exact congrArg some (by first | exact decide_eq_true (by omega) | exact decide_eq_false (by omega)))).mono ?_); rintro e w23 ⟨rfl, b24⟩; have FX22 := Aside0.mk (FX19.out.call b24.below); clear b24; clear FX19; clear hx0 hx1; have hx0 := FX22.out.old HX0.out; have hx1 := FX22.out.old HX1.out))
              go_ret3
              exact ⟨_, rfl, FX22.out.rowTrue 0 rfl, FX22.out.below⟩
            · rw [if_neg (fun q => c3 q.2.2.2.2)] at hst
              subst hst
              have q5 : decide ((tl.length : Int) < rd tl 1 + 4) = false := decide_eq_false c3
              go_wp2_with (first | (go_at_call 38; (with_reducible refine (impl_within.calls (rd tl 0) 1 16 true _ (by rw [within_tells]; exact congrArg some (by first | exact decide_eq_true (by omega) | exact decide_eq_false (by omega)))).mono ?_); rintro e w26 ⟨rfl, b27⟩; have FX25 := Aside0.mk (FX.out.call b27.below); clear b27; clear FX; clear hx0 hx1; have hx0 := FX25.out.old HX0.out; have hx1 := FX25.out.old HX1.out) | (go_at_call 38; (with_reducible refine (impl_within.calls (rd tl 1) 1 32 true _ (by rw [within_tells]; exact congrArg some (by first | exact decide_eq_true (by omega) | exact decide_eq_false (by omega)))).mono ?_); rintro e w29 ⟨rfl, b30⟩; have FX28 := Aside0.mk (FX25.out.call b30.below); clear b30; clear FX25; clear hx0 hx1; have hx0 := FX28.out.old HX0.out; have hx1 := FX28.out.old HX1.out))
              go_ret3
              exact ⟨_, rfl, FX28.out.rowTrue 0 rfl, FX28.out.below⟩
          · rw [if_neg (fun q => c2 ⟨q.2.2.1, q.2.2.2.1⟩)] at hst
            subst hst
            go_wp2_with (first | (go_at_call 38; (with_reducible refine (impl_within.calls (rd tl 0) 1 16 true _ (by rw [within_tells]; exact congrArg some (by first | exact decide_eq_true (by omega) | exact decide_eq_false (by omega)))).mono ?_); rintro e w32 ⟨rfl, b33⟩; have FX31 := Aside0.mk (FX.out.call b33.below); clear b33; clear FX; clear hx0 hx1; have hx0 := FX31.out.old HX0.out; have hx1 := FX31.out.old HX1.out) | (go_at_call 38; (with_reducible refine (impl_within.calls (rd tl 1) 1 32 false _ (by rw [within_tells]; exact congrArg some (by first | exact decide_eq_true (by omega) | exact decide_eq_false (by omega)))).mono ?_); rintro e w35 ⟨rfl, b36⟩; have FX34 := Aside0.mk (FX31.out.call b36.below); clear b36; clear FX31; clear hx0 hx1; have hx0 := FX34.out.old HX0.out; have hx1 := FX34.out.old HX1.out))
            go_ret3
            exact ⟨_, rfl, FX34.out.rowTrue 0 rfl, FX34.out.below⟩
        · rw [if_neg (fun q => c1 ⟨q.1, q.2.1⟩)] at hst
          subst hst
          go_wp2_with (first | (go_at_call 38; (with_reducible refine (impl_within.calls (rd tl 0) 1 16 false _ (by rw [within_tells]; exact congrArg some (by first | exact decide_eq_true (by omega) | exact decide_eq_false (by omega)))).mono ?_); rintro e w38 ⟨rfl, b39⟩; have FX37 := Aside0.mk (FX.out.call b39.below); clear b39; clear FX; clear hx0 hx1; have hx0 := FX37.out.old HX0.out; have hx1 := FX37.out.old HX1.out))
          go_ret3
          exact ⟨_, rfl, FX37.out.rowTrue 0 rfl, FX37.out.below⟩
def impl_ScanOps.f (l0 : List Int) : Option (List S24 × Int × Int) := if ∀ x ∈ l0, 0 ≤ x ∧ x ≤ 255 then some (scanS l0) else none
theorem impl_ScanOps.calls (A0 : Option Addr) (c0 : Nat) (l0 : List Int) (r1 : List S24) (r2 r3 : Int) (w : World) (hr0 : Kd.C (Kd.int .u8) w A0 l0.length l0) (hc0 : l0.length ≤ c0) (h : impl_ScanOps.f l0 = some (r1, r2, r3)) :
    Calls Try.prog 26 #[.slice A0 l0.length c0] w fun e w' => ∃ v0_ : Value, e = .returned (.tuple #[v0_, .int .i64 (r2), .int .i64 (r3)]) ∧ Kd.R k24 24 w' w.heap.size (fun _ => True) v0_ (r1) ∧ Below w.heap.size w w' := by
  unfold impl_ScanOps.f at h
  by_cases hby : ∀ x ∈ l0, 0 ≤ x ∧ x ≤ 255
  · rw [if_pos hby] at h
    have h' := Option.some.inj h
    clear h
    unfold scanS at h'
    by_cases h0 : 4000 < (l0.length : Int)
    · rw [if_pos h0] at h'
      simp only [Prod.mk.injEq] at h'
      obtain ⟨rfl, rfl, rfl⟩ := h'
      exact impl_ScanOps.A A0 c0 l0 w hr0 hc0 hby h0
    rw [if_neg h0] at h'
    simp only [Prod.mk.injEq] at h'
    obtain ⟨rfl, rfl, rfl⟩ := h'
    exact impl_ScanOps.B A0 c0 l0 w hr0 hc0 hby h0 _ _ rfl rfl
  · rw [if_neg hby] at h
    cases h

/-! ### laws_heldOpS: function 27 -/
def laws_heldOpS.l0 : Nat → List (S24) → Int → Int → Option (Int)
  | 0, _, _, _ => none
  | k + 1, x0, x1, x5 => if x5 < (x0.length : Int) then (if 0 ≤ x5 then (if ((rd_T24 x0 x5).f0) = x1 then (if ((rd_T24 x0 x5).f1) = (wrap64 (x1 + 1)) then (if ((rd_T24 x0 x5).f2) = (wrap64 ((wrap64 (x1 + 1)) + 1)) then (laws_heldOpS.l0 k x0 (wrap64 ((wrap64 ((wrap64 (x1 + 1)) + 1)) + 1)) (wrap64 (x5 + 1))) else (some (-1))) else (some (-1))) else (some (-1))) else (none)) else (some x1)
def laws_heldOpS.f (k : Nat) (l0 : List (S24)) (a1 : Int) : Option (Int) := laws_heldOpS.l0 k l0 a1 0
theorem laws_heldOpS.mono_l : ∀ k, (∀ y0 y1 y2, LeO (laws_heldOpS.l0 k y0 y1 y2) (laws_heldOpS.l0 (k + 1) y0 y1 y2))
  | 0 => fun _ _ _ r h => by simp [laws_heldOpS.l0] at h
  | k + 1 => by
    have ih0 := laws_heldOpS.mono_l k
    · intro y0 y1 y2
      unfold laws_heldOpS.l0
      repeat' first
      | (with_reducible exact ih0 _ _ _)
      | (with_reducible exact LeO.refl _)
      | (with_reducible exact LeO.none _)
      | (with_reducible refine LeO.ite ?_ ?_)
      | (with_reducible refine LeO.bind ?_ (fun _ => ?_))
      | exact ih0 _ _ _
      | exact LeO.none _
      | refine LeO.ite ?_ ?_
      | refine LeO.bind ?_ (fun _ => ?_)
theorem laws_heldOpS.mono : ∀ a0 a1 k, LeO (laws_heldOpS.f k a0 a1) (laws_heldOpS.f (k + 1) a0 a1) := by
  intro a0 a1 k
  have ih0 := laws_heldOpS.mono_l k
  unfold laws_heldOpS.f
  repeat' first
      | (with_reducible exact ih0 _ _ _)
      | (with_reducible exact LeO.refl _)
      | (with_reducible exact LeO.none _)
      | (with_reducible refine LeO.ite ?_ ?_)
      | (with_reducible refine LeO.bind ?_ (fun _ => ?_))
      | exact ih0 _ _ _
      | exact LeO.none _
      | refine LeO.ite ?_ ?_
      | refine LeO.bind ?_ (fun _ => ?_)
set_option maxHeartbeats 8000000 in
set_option maxRecDepth 100000 in
theorem laws_heldOpS.calls (k : Nat) (A0 : Option Addr) (c0 : Nat) (l0 : List (S24)) (a1 : Int) (r : Int) (w : World) (hr0 : Kd.C k24 w A0 l0.length l0) (hc0 : l0.length ≤ c0) (h : laws_heldOpS.f k l0 a1 = some r) :
    Calls Try.prog 27 #[.slice A0 l0.length c0, .int .i64 a1] w fun e w' => e = .returned (.int .i64 r) ∧ Drawn0 w w' := by
  have HR0 := Aside0.mk hr0
  have HC0 := Aside0.mk hc0
  clear hr0 hc0
  have H : (laws_heldOpS.l0 k l0 a1 0) = some r := h
  clear h
  have H' := Aside0.mk H
  clear H
  go_enter Try.func27, Try.ntmps27
  go_wp2
  go_loopg [1, 5] k (fun kq v1 v5 w' => ∃ (x1_1 : Int) (x5_1 : Int), v1 = .int .i64 x1_1 ∧ v5 = .int .i64 x5_1 ∧ Aside0 (laws_heldOpS.l0 kq l0 x1_1 x5_1 = some r) ∧ Aside0 (kq ≤ k) ∧ Drawn0 w w')
  case atStart => exact ⟨(a1), (0), (by first | rfl | (simp; done) | (simp [*]; done)), (by first | rfl | (simp; done) | (simp [*]; done)), H', ⟨Nat.le_refl _⟩, by repeat (first | exact Drawn0.refl _ | apply Drawn0.step)⟩
  case round =>
    clear H'
    try clear c2
    try clear p2
    obtain ⟨x1_1, x5_1, rfl, rfl, HA, HK1, ⟨m1, rfl⟩⟩ := hrel
    cases gk with
    | zero => exact absurd HA.out (by simp [laws_heldOpS.l0])
    | succ k1 =>
      have H := HA.out
      clear HA
      simp only [laws_heldOpS.l0] at H
      by_cases c3 : x5_1 < (l0.length : Int)
      · rw [if_pos c3] at H
        have c3b0 : decide (x5_1 < (l0.length : Int)) = true := decide_eq_true c3
        clear c3
        by_cases c4 : 0 ≤ x5_1
        · rw [if_pos c4] at H
          have c4b0 : decide (0 ≤ x5_1) = true := decide_eq_true c4
          clear c4
          by_cases c5 : ((rd_T24 l0 x5_1).f0) = x1_1
          · rw [if_pos c5] at H
            have c5b0 : (((rd_T24 l0 x5_1).f0) == x1_1) = true := beq_iff_eq.mpr c5
            have c5b1 : (((rd_T24 l0 x5_1).f0) != x1_1) = false := bne_eq_false_iff_eq.mpr c5
            clear c5
            by_cases c6 : ((rd_T24 l0 x5_1).f1) = (wrap64 (x1_1 + 1))
            · rw [if_pos c6] at H
              have c6b0 : (((rd_T24 l0 x5_1).f1) == (wrap64 (x1_1 + 1))) = true := beq_iff_eq.mpr c6
              have c6b1 : (((rd_T24 l0 x5_1).f1) != (wrap64 (x1_1 + 1))) = false := bne_eq_false_iff_eq.mpr c6
              clear c6
              by_cases c7 : ((rd_T24 l0 x5_1).f2) = (wrap64 ((wrap64 (x1_1 + 1)) + 1))
              · rw [if_pos c7] at H
                have c7b0 : (((rd_T24 l0 x5_1).f2) == (wrap64 ((wrap64 (x1_1 + 1)) + 1))) = true := beq_iff_eq.mpr c7
                have c7b1 : (((rd_T24 l0 x5_1).f2) != (wrap64 ((wrap64 (x1_1 + 1)) + 1))) = false := bne_eq_false_iff_eq.mpr c7
                clear c7
                have H' := Aside0.mk H
                clear H
                have p166 : 0 ≤ (x5_1 : Int) := of_decide_eq_true (by first | (with_reducible assumption) | assumption)
                have q166 : x5_1 < (l0.length : Int) := of_decide_eq_true (by first | (with_reducible assumption) | assumption)
                obtain ⟨ad166, e166, hx166_0, hx166_1, hx166_2⟩ := at_T24 HR0.out x5_1 p166 q166
                cases e166
                replace p166 := eq_true p166
                replace q166 := eq_true q166
                have p167 : 0 ≤ (x5_1 : Int) := of_decide_eq_true (by first | (with_reducible assumption) | assumption)
                have q167 : x5_1 < (l0.length : Int) := of_decide_eq_true (by first | (with_reducible assumption) | assumption)
                obtain ⟨ad167, e167, hx167_0, hx167_1, hx167_2⟩ := at_T24 HR0.out x5_1 p167 q167
                obtain rfl : ad166 = ad167 := (by injection e167)
                replace p167 := eq_true p167
                replace q167 := eq_true q167
                have p168 : 0 ≤ (x5_1 : Int) := of_decide_eq_true (by first | (with_reducible assumption) | assumption)
                have q168 : x5_1 < (l0.length : Int) := of_decide_eq_true (by first | (with_reducible assumption) | assumption)
                obtain ⟨ad168, e168, hx168_0, hx168_1, hx168_2⟩ := at_T24 HR0.out x5_1 p168 q168
                obtain rfl : ad166 = ad168 := (by injection e168)
                replace p168 := eq_true p168
                replace q168 := eq_true q168
                go_wp2
                go_roundg k1
                case measure => have := HK1.out; omega
                case rel => exact ⟨(wrap64 ((wrap64 ((wrap64 (x1_1 + 1)) + 1)) + 1)), (wrap64 (x5_1 + 1)), (by first | rfl | (simp; done) | (simp [*]; done)), (by first | rfl | (simp; done) | (simp [*]; done)), H', ⟨by have := HK1.out; omega⟩, by repeat (first | exact Drawn0.refl _ | apply Drawn0.step)⟩
              · rw [if_neg c7] at H
                have c7b0 : (((rd_T24 l0 x5_1).f2) == (wrap64 ((wrap64 (x1_1 + 1)) + 1))) = false := beq_eq_false_iff_ne.mpr c7
                have c7b1 : (((rd_T24 l0 x5_1).f2) != (wrap64 ((wrap64 (x1_1 + 1)) + 1))) = true := bne_iff_ne.mpr c7
                obtain rfl := Option.some.inj H
                have p166 : 0 ≤ (x5_1 : Int) := of_decide_eq_true (by first | (with_reducible assumption) | assumption)
                have q166 : x5_1 < (l0.length : Int) := of_decide_eq_true (by first | (with_reducible assumption) | assumption)
                obtain ⟨ad166, e166, hx166_0, hx166_1, hx166_2⟩ := at_T24 HR0.out x5_1 p166 q166
                cases e166
                replace p166 := eq_true p166
                replace q166 := eq_true q166
                have p167 : 0 ≤ (x5_1 : Int) := of_decide_eq_true (by first | (with_reducible assumption) | assumption)
                have q167 : x5_1 < (l0.length : Int) := of_decide_eq_true (by first | (with_reducible assumption) | assumption)
                obtain ⟨ad167, e167, hx167_0, hx167_1, hx167_2⟩ := at_T24 HR0.out x5_1 p167 q167
                obtain rfl : ad166 = ad167 := (by injection e167)
                replace p167 := eq_true p167
                replace q167 := eq_true q167
                have p168 : 0 ≤ (x5_1 : Int) := of_decide_eq_true (by first | (with_reducible assumption) | assumption)
                have q168 : x5_1 < (l0.length : Int) := of_decide_eq_true (by first | (with_reducible assumption) | assumption)
                obtain ⟨ad168, e168, hx168_0, hx168_1, hx168_2⟩ := at_T24 HR0.out x5_1 p168 q168
                obtain rfl : ad166 = ad168 := (by injection e168)
                replace p168 := eq_true p168
                replace q168 := eq_true q168
                go_wp2
                go_ret
                exact ⟨by first | rfl | (simp; done) | (simp [*]; done), by repeat (first | exact Drawn0.refl _ | apply Drawn0.step)⟩
            · rw [if_neg c6] at H
              have c6b0 : (((rd_T24 l0 x5_1).f1) == (wrap64 (x1_1 + 1))) = false := beq_eq_false_iff_ne.mpr c6
              have c6b1 : (((rd_T24 l0 x5_1).f1) != (wrap64 (x1_1 + 1))) = true := bne_iff_ne.mpr c6
              obtain rfl := Option.some.inj H
              have p166 : 0 ≤ (x5_1 : Int) := of_decide_eq_true (by first | (with_reducible assumption) | assumption)
              have q166 : x5_1 < (l0.length : Int) := of_decide_eq_true (by first | (with_reducible assumption) | assumption)
              obtain ⟨ad166, e166, hx166_0, hx166_1, hx166_2⟩ := at_T24 HR0.out x5_1 p166 q166
              cases e166
              replace p166 := eq_true p166
              replace q166 := eq_true q166
              have p167 : 0 ≤ (x5_1 : Int) := of_decide_eq_true (by first | (with_reducible assumption) | assumption)
              have q167 : x5_1 < (l0.length : Int) := of_decide_eq_true (by first | (with_reducible assumption) | assumption)
              obtain ⟨ad167, e167, hx167_0, hx167_1, hx167_2⟩ := at_T24 HR0.out x5_1 p167 q167
              obtain rfl : ad166 = ad167 := (by injection e167)
              replace p167 := eq_true p167
              replace q167 := eq_true q167
              go_wp2
              go_ret
              exact ⟨by first | rfl | (simp; done) | (simp [*]; done), by repeat (first | exact Drawn0.refl _ | apply Drawn0.step)⟩
          · rw [if_neg c5] at H
            have c5b0 : (((rd_T24 l0 x5_1).f0) == x1_1) = false := beq_eq_false_iff_ne.mpr c5
            have c5b1 : (((rd_T24 l0 x5_1).f0) != x1_1) = true := bne_iff_ne.mpr c5
            obtain rfl := Option.some.inj H
            have p166 : 0 ≤ (x5_1 : Int) := of_decide_eq_true (by first | (with_reducible assumption) | assumption)
            have q166 : x5_1 < (l0.length : Int) := of_decide_eq_true (by first | (with_reducible assumption) | assumption)
            obtain ⟨ad166, e166, hx166_0, hx166_1, hx166_2⟩ := at_T24 HR0.out x5_1 p166 q166
            cases e166
            replace p166 := eq_true p166
            replace q166 := eq_true q166
            go_wp2
            go_ret
            exact ⟨by first | rfl | (simp; done) | (simp [*]; done), by repeat (first | exact Drawn0.refl _ | apply Drawn0.step)⟩
        · rw [if_neg c4] at H
          exact absurd H (by simp)
      · rw [if_neg c3] at H
        have c3b0 : decide (x5_1 < (l0.length : Int)) = false := decide_eq_false c3
        clear c3
        obtain rfl := Option.some.inj H
        go_wp2
        go_ret
        exact ⟨by first | rfl | (simp; done) | (simp [*]; done), by repeat (first | exact Drawn0.refl _ | apply Drawn0.step)⟩

end Go.Proofs.Ytimlccgpeoaigaa.PFnExactScanOps
