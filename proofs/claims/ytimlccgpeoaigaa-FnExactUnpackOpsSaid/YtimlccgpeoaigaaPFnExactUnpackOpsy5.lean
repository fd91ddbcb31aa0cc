-- Written by a program of this session (wip/tools/mkprint2.py over the kit's print); texts of functions that the print does not take are the session's own (ext.py).
import Derived.Test.YtimlccgpeoaigaaPFnExactUnpackOpsy0
import Derived.Test.YtimlccgpeoaigaaPFnExactUnpackOpsy2
import Derived.Test.YtimlccgpeoaigaaPFnExactUnpackOpsy3
import Derived.Test.YtimlccgpeoaigaaPFnExactUnpackOpsy4
namespace Go.Proofs.Ytimlccgpeoaigaa.PFnExactUnpackOps
open Go.RowKit Go.Proofs.YtimlccgpeoaigaaW.PrintWords Go.Proofs.YtimlccgpeoaigaaW.PrintLast Go.Proofs.YtimlccgpeoaigaaW.PrintMore
attribute [local go_sem] max2_int min2_int max_two min_two max_three min_three max_four min_four   -- for this text's walks alone
set_option linter.unusedVariables false
set_option linter.unusedSimpArgs false

/-! ### impl_ScanOps: function 26 (by hand) -/
def readOps : Nat → List Int → Int → List S24 → Option (List S24 × Int)
  | 0, _, a, acc => some (acc, a)
  | n + 1, l, a, acc => if (unpack l a).2.2.2 < 0 then none else readOps n l (unpack l a).2.2.2 (acc ++ [⟨(unpack l a).1, (unpack l a).2.1, (unpack l a).2.2.1⟩])
def blockEnd (o : Option (List S24 × Int)) (n : Int) : List S24 × Int :=
  match o with
  | none => ([], -1)
  | some (ops, a) => if a = n then (ops, n + 2) else ([], -1)
theorem readOps_fail {n : Nat} {l : List Int} {a : Int} {acc : List S24} {u1 u2 u3 u4 : Int} (hu : unpack l a = (u1, u2, u3, u4)) (h : u4 < 0) : readOps (n + 1) l a acc = none := by
  simp only [readOps, hu]
  rw [if_pos h]
theorem readOps_step {n : Nat} {l : List Int} {a : Int} {acc : List S24} {u1 u2 u3 u4 : Int} (hu : unpack l a = (u1, u2, u3, u4)) (h : ¬ u4 < 0) : readOps (n + 1) l a acc = readOps n l u4 (acc ++ [⟨u1, u2, u3⟩]) := by
  simp only [readOps, hu]
  rw [if_neg h]
theorem byte_at {l : List Int} (h : ∀ x ∈ l, 0 ≤ x ∧ x ≤ 255) (i : Int) : 0 ≤ rd l i ∧ rd l i ≤ 255 := by
  unfold rd
  rw [List.getD_eq_getElem?_getD]
  rcases Nat.lt_or_ge i.toNat l.length with hl | hl
  · rw [List.getElem?_eq_getElem hl]
    exact h _ (List.getElem_mem hl)
  · rw [List.getElem?_eq_none hl]
    simp
theorem add_lit (ad : Addr) (n : Nat) (h : n ≠ 0) : ad.add n = ⟨ad.block, ad.off + n, none⟩ := by unfold Addr.add; simp [h]
theorem add_nil (ad : Addr) : ad.add 0 = ad := by unfold Addr.add; simp
def sumStep (s x : Int) : Int := Int.tmod (wrap64 ((wrap64 (31 * s)) + (wrap64 x))) 65521
def sumOf (l : List Int) : Int := l.foldl sumStep 1
theorem wrN {n m : Nat} (h : n < m) (hm : m ≤ 9223372036854775807) : wrap64 ((n : Int) + 1) = ((n + 1 : Nat) : Int) := by
  unfold wrap64
  omega
theorem rd_at {l : List Int} {n : Nat} (h : n < l.length) : rd l (n : Int) = l[n] := by unfold rd; simp [List.getD_eq_getElem?_getD, h]
/-- The operations of the block at the start of l and how many bytes it has; -1 where there is none. -/
def blockS (l : List Int) : List S24 × Int :=
  if l.length < 2 then ([], -1) else if ¬ (1 ≤ rd l 0 ∧ rd l 0 ≤ 16) then ([], -1) else if (l.length : Int) < 2 + rd l 1 + 2 then ([], -1) else
  if sumOf (l.take (2 + rd l 1).toNat) ≠ 256 * rd l (2 + rd l 1) + rd l (2 + rd l 1 + 1) then ([], -1) else blockEnd (readOps (rd l 0).toNat (l.take (2 + rd l 1).toNat) 2 []) (2 + rd l 1)
theorem readOps_len : ∀ (n : Nat) (l : List Int) (a : Int) (acc : List S24) (ops : List S24) (b : Int), readOps n l a acc = some (ops, b) → ops.length = acc.length + n := by
  intro n
  induction n with
  | zero =>
    intro l a acc ops b h
    simp only [readOps, Option.some.injEq, Prod.mk.injEq] at h
    obtain ⟨rfl, rfl⟩ := h
    simp
  | succ n ih =>
    intro l a acc ops b h
    simp only [readOps] at h
    split at h
    · cases h
    · have := ih _ _ _ _ _ h
      simp at this
      omega
theorem blockS_ok {l : List Int} (hby : ∀ x ∈ l, 0 ≤ x ∧ x ≤ 255) {ops : List S24} {m : Int} (h : blockS l = (ops, m)) : (m < 0 ∧ ops = []) ∨ (4 ≤ m ∧ m ≤ (l.length : Int) ∧ ops.length ≤ 16) := by
  unfold blockS at h
  have y1 := byte_at hby 1
  split at h
  · injection h with h1 h2; subst h1; subst h2; exact .inl ⟨by omega, rfl⟩
  · split at h
    · injection h with h1 h2; subst h1; subst h2; exact .inl ⟨by omega, rfl⟩
    · rename_i q0
      split at h
      · injection h with h1 h2; subst h1; subst h2; exact .inl ⟨by omega, rfl⟩
      · split at h
        · injection h with h1 h2; subst h1; subst h2; exact .inl ⟨by omega, rfl⟩
        · unfold blockEnd at h
          split at h
          · injection h with h1 h2; subst h1; subst h2; exact .inl ⟨by omega, rfl⟩
          · rename_i os a hr
            split at h
            · injection h with h1 h2; subst h1; subst h2
              refine .inr ⟨by omega, by omega, ?_⟩
              have := readOps_len _ _ _ _ _ _ hr
              simp at this
              omega
            · injection h with h1 h2; subst h1; subst h2; exact .inl ⟨by omega, rfl⟩
/-- The blocks from a on, as long as they hold. -/
def scanFrom : Nat → List Int → Int → List S24 → List S24 × Int
  | 0, _, a, acc => (acc, a)
  | n + 1, l, a, acc => if (l.length : Int) ≤ a then (acc, a) else if (blockS (l.drop a.toNat)).2 < 0 then (acc, a) else scanFrom n l (a + (blockS (l.drop a.toNat)).2) (acc ++ (blockS (l.drop a.toNat)).1)
def statusOf (l : List Int) : Int := if l.length = 0 then 0 else if l.length < 2 then 1 else if 1 ≤ rd l 0 ∧ rd l 0 ≤ 16 ∧ 1 ≤ rd l 1 ∧ rd l 1 ≤ 32 ∧ (l.length : Int) < rd l 1 + 4 then 1 else 2
def scanS (l : List Int) : List S24 × Int × Int :=
  if 4000 < (l.length : Int) then ([], 0, 2) else ((scanFrom (l.length + 1) l 0 []).1, (scanFrom (l.length + 1) l 0 []).2, statusOf (l.drop (scanFrom (l.length + 1) l 0 []).2.toNat))
theorem drop_bytes {l : List Int} (h : ∀ x ∈ l, 0 ≤ x ∧ x ≤ 255) (n : Nat) : ∀ x ∈ l.drop n, 0 ≤ x ∧ x ≤ 255 := fun x hx => h x (List.mem_of_mem_drop hx)
theorem scanFrom_le (l : List Int) (hby : ∀ x ∈ l, 0 ≤ x ∧ x ≤ 255) : ∀ (n : Nat) (a : Int) (acc : List S24), 0 ≤ a → a ≤ (l.length : Int) → 0 ≤ (scanFrom n l a acc).2 ∧ (scanFrom n l a acc).2 ≤ (l.length : Int) := by
  intro n
  induction n with
  | zero => intro a acc h0 h1; exact ⟨h0, h1⟩
  | succ n ih =>
    intro a acc h0 h1
    simp only [scanFrom]
    split
    · exact ⟨h0, h1⟩
    · split
      · exact ⟨h0, h1⟩
      · rename_i hm
        have hb := blockS_ok (drop_bytes hby a.toNat) (ops := (blockS (l.drop a.toNat)).1) (m := (blockS (l.drop a.toNat)).2) rfl
        rw [List.length_drop] at hb
        exact ih _ _ (by omega) (by omega)
theorem take_elem {l : List S24} {i : Int} (h0 : 0 ≤ i) (h : i < (l.length : Int)) : l.drop i.toNat = rd_T24 l i :: l.drop (i + 1).toNat := by
  have hl : i.toNat < l.length := by omega
  rw [List.drop_eq_getElem_cons hl, show (i + 1).toNat = i.toNat + 1 by omega]
  unfold rd_T24
  simp [List.getD_eq_getElem?_getD, hl]
theorem toList_nums (a : List Int) : (strOfNums a).toList = a.map fun n => UInt8.ofNat n.toNat := by
  rw [Go.Lib.strOfNums_toList]
  rfl
theorem nums_inj : ∀ {a b : List Int}, (∀ x ∈ a, 0 ≤ x ∧ x ≤ 255) → (∀ x ∈ b, 0 ≤ x ∧ x ≤ 255) → a.map (fun n => UInt8.ofNat n.toNat) = b.map (fun n => UInt8.ofNat n.toNat) → a = b
  | [], [], _, _, _ => rfl
  | [], _ :: _, _, _, h => by simp at h
  | _ :: _, [], _, _, h => by simp at h
  | x :: a, y :: b, ha, hb, h => by
    simp only [List.map_cons, List.cons.injEq] at h
    have h1 := congrArg UInt8.toNat h.1
    have hx := ha x (by simp)
    have hy := hb y (by simp)
    simp only [UInt8.toNat_ofNat'] at h1
    rw [nums_inj (fun z hz => ha z (by simp [hz])) (fun z hz => hb z (by simp [hz])) h.2, show x = y by omega]
theorem bytesEq_tells {a b : List Int} (ha : ∀ x ∈ a, 0 ≤ x ∧ x ≤ 255) (hb : ∀ x ∈ b, 0 ≤ x ∧ x ≤ 255) : bytes_Equal.f a b = some (decide (a = b)) := by
  unfold bytes_Equal.f
  rw [toList_nums, toList_nums, Option.some.injEq]
  by_cases h : a = b
  · subst h
    simp
  · rw [decide_eq_false h]
    exact beq_eq_false_iff_ne.2 (fun e => h (nums_inj ha hb e))
theorem implSum_loop (l : List Int) (hl : l.length ≤ 9223372036854775807) (d : Nat) : ∀ (n k : Nat) (s : Int), n + d = l.length → d < k → impl_SumBytes.l0 k s l (l.length : Int) (n : Int) = some ((l.drop n).foldl sumStep s) := by
  induction d with
  | zero =>
    intro n k s hn hk
    obtain ⟨k, rfl⟩ : ∃ m, k = m + 1 := ⟨k - 1, by omega⟩
    simp only [impl_SumBytes.l0]
    rw [if_neg (by omega), List.drop_of_length_le (by omega)]
    rfl
  | succ d ih =>
    intro n k s hn hk
    obtain ⟨k, rfl⟩ : ∃ m, k = m + 1 := ⟨k - 1, by omega⟩
    have hlt : n < l.length := by omega
    simp only [impl_SumBytes.l0]
    rw [if_pos (by omega), if_pos (by omega), if_pos (by omega), wrN hlt hl, List.drop_eq_getElem_cons hlt, List.foldl_cons, ih (n + 1) k _ (by omega) (by omega), rd_at hlt]
    rfl
theorem implSum_tells (l : List Int) (hl : l.length ≤ 9223372036854775807) (k : Nat) (hk : l.length < k) : impl_SumBytes.f k l = some (sumOf l) := by
  unfold impl_SumBytes.f sumOf
  exact implSum_loop l hl l.length 0 k 1 (by omega) hk
theorem sum_lt : ∀ (l : List Int) (s : Int), (∀ x ∈ l, 0 ≤ x ∧ x ≤ 255) → 0 ≤ s → s < 65521 → 0 ≤ l.foldl sumStep s ∧ l.foldl sumStep s < 65521
  | [], s, _, h0, h1 => ⟨h0, h1⟩
  | x :: l, s, hb, h0, h1 => by
    have hx := hb x (by simp)
    have h2 : sumStep s x = (31 * s + x) % 65521 := by
      unfold sumStep
      rw [show wrap64 (31 * s) = 31 * s by unfold wrap64; omega, show wrap64 x = x by unfold wrap64; omega, show wrap64 (31 * s + x) = 31 * s + x by unfold wrap64; omega, Int.tmod_eq_emod_of_nonneg (by omega)]
    rw [List.foldl_cons, h2]
    exact sum_lt l _ (fun z hz => hb z (by simp [hz])) (by omega) (by omega)
theorem sumOf_lt (l : List Int) (hb : ∀ x ∈ l, 0 ≤ x ∧ x ≤ 255) : 0 ≤ sumOf l ∧ sumOf l < 65521 := sum_lt l 1 hb (by omega) (by omega)
theorem sealed_tells (l : List Int) (hl : l.length ≤ 5000) (k : Nat) (hk : l.length < k) : impl_sealed.f k l = some (l ++ [(sumOf l / 256) % 256, sumOf l % 256]) := by
  unfold impl_sealed.f
  rw [implSum_tells l (by omega) k hk]
  simp only [Option.bind_some, slices_Clone_byte_byte.f]
  rw [if_pos (by omega)]
  simp only [Option.bind_some, List.length_cons, List.length_nil]
  rw [if_pos (by omega)]
theorem take_two {l : List Int} {e : Int} (h0 : 0 ≤ e) (h : e + 2 ≤ (l.length : Int)) : l.take (e + 2).toNat = l.take e.toNat ++ [rd l e, rd l (e + 1)] := by
  obtain ⟨n, rfl⟩ : ∃ n : Nat, e = (n : Int) := ⟨e.toNat, by omega⟩
  have h1 : n < l.length := by omega
  have h2 : n + 1 < l.length := by omega
  rw [show ((n : Int) + 2).toNat = n + 1 + 1 by omega, Int.toNat_natCast, List.take_succ_eq_append_getElem h2, List.take_succ_eq_append_getElem h1, List.append_assoc]
  rw [show (n : Int) + 1 = ((n + 1 : Nat) : Int) by omega, rd_at h1, rd_at h2]
  rfl
theorem take_bytes {l : List Int} (h : ∀ x ∈ l, 0 ≤ x ∧ x ≤ 255) (n : Nat) : ∀ x ∈ l.take n, 0 ≤ x ∧ x ≤ 255 := fun x hx => h x (List.mem_of_mem_take hx)
/-- The program's block: as the reference's, with 0 where there is none. -/
def blockI (l : List Int) : List S24 × Int := if (blockS l).2 < 0 then ([], 0) else blockS l
/-- What the program's loop over a block's operations answers. -/
def loopEnd (l : List Int) (e : Int) : Option (List S24 × Int) → List S24 × Int
  | none => ([], 0)
  | some (xs, b) => if b = e then (if sumOf (l.take e.toNat) = 256 * rd l e + rd l (e + 1) then (xs, e + 2) else ([], 0)) else ([], 0)
theorem implBlock_loop (l : List Int) (hby : ∀ x ∈ l, 0 ≤ x ∧ x ≤ 255) (hl : l.length ≤ 4000) (e n : Int) (he0 : 2 ≤ e) (he : e + 2 ≤ (l.length : Int)) (hn : n ≤ 16) (d : Nat) : ∀ (k : Nat) (i a : Int) (acc : List S24), 0 ≤ i → i + d = n → acc.length ≤ i → l.length + 2 + d < k →
    impl_block.l0 k l e acc a n i = some (loopEnd l e (readOps d (l.take e.toNat) a acc)) := by
  induction d with
  | zero =>
    intro k i a acc h0 hi hac hk
    obtain ⟨k, rfl⟩ : ∃ m, k = m + 1 := ⟨k - 1, by omega⟩
    simp only [impl_block.l0, readOps, loopEnd]
    rw [if_neg (by omega)]
    by_cases ha : a = e
    · have hlt : (l.take e.toNat).length ≤ l.length := by rw [List.length_take]; exact Nat.min_le_right _ _
      rw [if_pos ha, if_pos ha, if_pos (by omega), if_pos (by omega), sealed_tells _ (by omega) k (by omega)]
      have hw : wrap64 (e + 2) = e + 2 := by unfold wrap64; omega
      have hs := sumOf_lt _ (take_bytes hby e.toNat)
      have y1 := byte_at hby e
      have y2 := byte_at hby (e + 1)
      simp only [Option.bind_some, hw]
      rw [if_pos (by omega), if_pos (by omega), bytesEq_tells (fun x hx => by
        rw [List.mem_append] at hx
        rcases hx with hx | hx
        · exact take_bytes hby _ x hx
        · simp only [List.mem_cons, List.not_mem_nil, or_false] at hx
          rcases hx with rfl | rfl <;> omega) (take_bytes hby _), take_two (by omega) he]
      simp only [Option.bind_some, decide_eq_true_eq]
      have hiff : (l.take e.toNat ++ [sumOf (l.take e.toNat) / 256 % 256, sumOf (l.take e.toNat) % 256] = l.take e.toNat ++ [rd l e, rd l (e + 1)]) ↔ sumOf (l.take e.toNat) = 256 * rd l e + rd l (e + 1) := by
        rw [List.append_right_inj]
        simp only [List.cons.injEq, and_true]
        omega
      by_cases hq : sumOf (l.take e.toNat) = 256 * rd l e + rd l (e + 1)
      · rw [if_pos (hiff.2 hq), if_pos hq]
      · rw [if_neg (fun q => hq (hiff.1 q)), if_neg hq]
    · rw [if_neg ha, if_neg ha]
  | succ d ih =>
    intro k i a acc h0 hi hac hk
    obtain ⟨k, rfl⟩ : ∃ m, k = m + 1 := ⟨k - 1, by omega⟩
    obtain ⟨u1, u2, u3, u4, hu⟩ : ∃ u1 u2 u3 u4, unpack (l.take e.toNat) a = (u1, u2, u3, u4) := ⟨_, _, _, _, rfl⟩
    simp only [impl_block.l0, impl_UnpackOp.f, hu, Option.bind_some]
    rw [if_pos (by omega), if_pos (by omega), if_pos (by omega)]
    by_cases hn : u4 < 0
    · rw [if_pos hn, readOps_fail hu hn]
      rfl
    · rw [if_neg hn, readOps_step hu hn, if_pos (by omega), show wrap64 (i + 1) = i + 1 by unfold wrap64; omega]
      exact ih k (i + 1) u4 _ (by omega) (by omega) (by simp; omega) (by omega)
theorem implBlock_tells (l : List Int) (hby : ∀ x ∈ l, 0 ≤ x ∧ x ≤ 255) (hl : l.length ≤ 4000) : impl_block.f 4100 l = some (blockI l) := by
  have y0 := byte_at hby 0
  have y1 := byte_at hby 1
  have w0 : wrap64 (rd l 0) = rd l 0 := by unfold wrap64; omega
  have w1 : wrap64 (rd l 1) = rd l 1 := by unfold wrap64; omega
  have w2 : wrap64 (2 + rd l 1) = 2 + rd l 1 := by unfold wrap64; omega
  have w3 : wrap64 (rd l 1 + 4) = rd l 1 + 4 := by unfold wrap64; omega
  unfold impl_block.f blockI blockS
  rw [show (4100 : Nat) = 4099 + 1 from rfl]
  simp only [w0, w1, w2, w3, within_tells, impl_block.j0, Option.bind_some]
  by_cases h0 : l.length < 2
  · rw [if_pos (by omega), if_pos h0]
    simp
  rw [if_neg (by omega), if_neg h0, if_pos (by omega)]
  by_cases h1 : 1 ≤ rd l 0 ∧ rd l 0 ≤ 16
  · simp only [h1, and_self, decide_true, reduceIte, not_true, if_false]
    rw [if_pos (by omega)]
    by_cases h2 : (l.length : Int) < 2 + rd l 1 + 2
    · rw [if_pos h2, if_pos (by simp; omega)]
      simp
    · rw [if_neg h2, if_neg (by simp; omega), if_pos (by omega), if_pos (by omega), implBlock_loop l hby hl (2 + rd l 1) (rd l 0) (by omega) (by omega) (by omega) (rd l 0).toNat 4099 0 2 [] (by omega) (by omega) (by simp) (by omega)]
      by_cases h3 : sumOf (l.take (2 + rd l 1).toNat) = 256 * rd l (2 + rd l 1) + rd l (2 + rd l 1 + 1)
      · rw [if_neg (show ¬ (sumOf (l.take (2 + rd l 1).toNat) ≠ 256 * rd l (2 + rd l 1) + rd l (2 + rd l 1 + 1)) from fun q => q h3)]
        rcases hr : readOps (rd l 0).toNat (l.take (2 + rd l 1).toNat) 2 [] with _ | ⟨xs, b⟩
        · simp [loopEnd, blockEnd]
        · by_cases hb : b = 2 + rd l 1
          · simp only [loopEnd, blockEnd, if_pos hb, if_pos h3]
            rw [if_neg (by omega)]
          · simp [loopEnd, blockEnd, hb]
      · rw [if_pos h3]
        rcases hr : readOps (rd l 0).toNat (l.take (2 + rd l 1).toNat) 2 [] with _ | ⟨xs, b⟩
        · simp [loopEnd]
        · by_cases hb : b = 2 + rd l 1
          · simp [loopEnd, hb, h3]
          · simp [loopEnd, hb]
  · simp only [h1, decide_false, Bool.false_eq_true, reduceIte, not_false_eq_true]
    simp
theorem scan_fail {l : List Int} {a : Int} {n : Nat} {acc : List S24} (h : (blockS (l.drop a.toNat)).2 < 0) : scanFrom (n + 1) l a acc = (acc, a) := by
  simp only [scanFrom, if_pos h]
  split <;> rfl
theorem scan_ok {l : List Int} {a : Int} {n : Nat} {acc : List S24} (h : ¬ (blockS (l.drop a.toNat)).2 < 0) : scanFrom (n + 1) l a acc = scanFrom n l (a + (blockS (l.drop a.toNat)).2) (acc ++ (blockS (l.drop a.toNat)).1) := by
  simp only [scanFrom, if_neg h]
  rw [if_neg]
  intro q
  rw [List.drop_of_length_le (by omega)] at h
  exact h (by decide)

set_option maxHeartbeats 8000000 in
set_option maxRecDepth 100000 in
theorem impl_ScanOps.A (A0 : Option Addr) (c0 : Nat) (l0 : List Int) (w : World) (hr0 : Kd.C (Kd.int .u8) w A0 l0.length l0) (hc0 : l0.length ≤ c0) (hby : ∀ x ∈ l0, 0 ≤ x ∧ x ≤ 255) (h : 4000 < (l0.length : Int)) :
    Calls Try.prog 26 #[.slice A0 l0.length c0] w fun e w' => ∃ v0_ : Value, e = .returned (.tuple #[v0_, .int .i64 (0), .int .i64 (2)]) ∧ Kd.R k24 24 w' w.heap.size (fun _ => True) v0_ ([]) ∧ Below w.heap.size w w' := by
  have b1 : decide (4000 < (l0.length : Int)) = true := decide_eq_true h
  have b2 : decide (4000 < l0.length) = true := decide_eq_true (by omega)
  clear h hby
  go_enter Try.func26, Try.ntmps26
  go_wp2
  go_ret3
  exact ⟨_, rfl, Kd.R_nil _ _ _ _ _, Below.refl _ _⟩
set_option maxHeartbeats 8000000 in
set_option maxRecDepth 100000 in
theorem impl_ScanOps.B (A0 : Option Addr) (c0 : Nat) (l0 : List Int) (w : World) (hr0 : Kd.C (Kd.int .u8) w A0 l0.length l0) (hc0 : l0.length ≤ c0) (hby : ∀ x ∈ l0, 0 ≤ x ∧ x ≤ 255) (h : ¬ 4000 < (l0.length : Int)) (r1 : List S24 × Int) (r3 : Int) (hres : scanFrom (l0.length + 1) l0 0 [] = r1) (hst : statusOf (l0.drop r1.2.toNat) = r3) :
    Calls Try.prog 26 #[.slice A0 l0.length c0] w fun e w' => ∃ v0_ : Value, e = .returned (.tuple #[v0_, .int .i64 (r1.2), .int .i64 (r3)]) ∧ Kd.R k24 24 w' w.heap.size (fun _ => True) v0_ (r1.1) ∧ Below w.heap.size w w' := by
  have hc0' := Aside0.mk hc0
  have HR := Aside0.mk hr0
  have HBY := Aside0.mk hby
  have hl := Kd.C_max hr0
  have b1 : decide (4000 < (l0.length : Int)) = false := decide_eq_false (by omega)
  have b2 : decide (4000 < l0.length) = false := decide_eq_false (by omega)
  obtain ⟨z0, z1⟩ : 0 ≤ r1.2 ∧ r1.2 ≤ (l0.length : Int) := by rw [← hres]; exact scanFrom_le l0 hby _ _ _ (by omega) (by omega)
  obtain ⟨rs, ra⟩ := r1
  dsimp only at z0 z1 hst ⊢
  have HRES := Aside0.mk hres
  have HST := Aside0.mk hst
  clear hres hst hr0 hby
  have FX := Aside0.mk (YtimlccgpeoaigaaX.Fx.start w)
  go_enter Try.func26, Try.ntmps26
  go_upto_block 0 with (((with_reducible refine gate_dst (N := 13) rfl ?_); refine Kd.R_lit k24 _ 24 ?hg (N := 13) ?hd (xs := ([] : List S24)) (inner := []) (ok := fun _ => True) (okp := fun _ => True) ?hr ?hp (fun _ hk => hk) trivial (Below.refl _ _) (Nat.le_refl _) (by simp) ?_; (case hd => rfl); (case hg => rfl); (case hr => first | (go_simp; done) | (go_simp; rfl)); (case hp => exact (Reps.none _ _)); intro v5 w2 h5 b3 hg_ hn_; clear hg_ hn_; obtain ⟨S4, q6⟩ := FX.out.laid h5 b3; have FX1 := Aside0.mk q6; clear q6 h5 b3; clear FX))
  (try simp only [Act.put, List.setIfInBounds_toArray, List.set_cons_zero, List.set_cons_succ])
  go_cut [5, 6] (fun v5 v6 wc => ∃ S : Nat → Prop, v6 = .int .i64 ra ∧ Aside0 (YtimlccgpeoaigaaX.Fx w wc [YtimlccgpeoaigaaX.row k24 24 w.heap.size S v5 rs]))
  case first =>
    go_wp2
    go_loopg [5, 6] (l0.length + 1) (fun gg v5 v6 wr => ∃ (a : Int) (xs : List S24) (S : Nat → Prop), 0 ≤ a ∧ a ≤ (l0.length : Int) ∧ Aside0 ((l0.length : Int) < a + gg) ∧ v6 = .int .i64 a ∧ Aside0 ((xs.length : Int) ≤ 16 * a) ∧ Aside0 (scanFrom gg l0 a xs = (rs, ra)) ∧ Aside0 (YtimlccgpeoaigaaX.Fx w wr [YtimlccgpeoaigaaX.row k24 24 w.heap.size S v5 xs]))
    case atStart => exact ⟨0, [], S4, by omega, by omega, ⟨by omega⟩, rfl, ⟨by simp⟩, HRES, FX1⟩
    case round =>
      clear HRES FX1
      obtain ⟨a, xs, S, a0, a1, hg, rfl, hlen, HE, FX⟩ := hrel
      have he := HE.out
      clear HE
      obtain ⟨kq, rfl⟩ : ∃ q, gk = q + 1 := ⟨gk - 1, by have := hg.out; omega⟩
      have hsf := @scan_fail l0 a kq xs
      have hso := @scan_ok l0 a kq xs
      obtain ⟨i5, hi5, hz5⟩ := Option.map_eq_some_iff.1 info5
      simp only [Prod.mk.injEq] at hz5
      obtain ⟨_, hs5, _⟩ := hz5
      obtain ⟨A1, hsl, hA, hC⟩ := print_drop_of (P := Try.prog) (Value.int .u8) 0 22 5 .i64 Try.underlying22 hi5 hs5 A0 c0 l0 a (by omega) (by omega) hc0'.out
      clear hi5 hs5
      have hrl := HR.out
      replace hA : Aside0 (Kd.C (Kd.int .u8) w A1 _ (l0.drop a.toNat)) := ⟨Kd.C_of_reads (h1 := fun _ => rfl) (hA _ (Kd.reads_of_C hrl))⟩
      clear hrl
      have hbt := drop_bytes HBY.out a.toNat
      have hld : ((l0.drop a.toNat).length : Int) = l0.length - a := by rw [List.length_drop]; omega
      generalize hd : l0.drop a.toNat = tl at *
      clear hd
      obtain ⟨os, m, hb⟩ : ∃ ops m, blockS tl = (ops, m) := ⟨_, _, rfl⟩
      have hok := blockS_ok hbt hb
      have hi := implBlock_tells tl hbt (by omega)
      unfold blockI at hi
      rw [hb] at hi hsf hso
      clear hb hbt
      dsimp only at hi hsf hso
      replace hC := Aside0.mk hC
      by_cases hm : m < 0
      · rw [if_pos hm] at hi
        rw [hsf hm] at he
        have HF := Aside0.mk hi
        clear hi hsf hso hm hok hld
        obtain ⟨rfl, rfl⟩ := Prod.mk.inj he
        clear he
        go_wp2_with (go_at_call 52; (with_reducible refine (impl_block.calls 4100 A1 _ tl ([] : List S24) 0 _ (FX.out.oldC hA.out) hC.out HF.out).mono ?_); rintro e w2 ⟨vb, rfl, h5, b3⟩; obtain ⟨S4, q6⟩ := FX.out.laid h5 b3; have FX1 := Aside0.mk q6; clear q6 h5 b3; clear FX)
        go_meet
        case rel => exact ⟨_, rfl, ⟨FX1.out.tail⟩⟩
      · rw [if_neg hm] at hi
        rw [hso hm] at he
        have HF := Aside0.mk hi
        have HE := Aside0.mk he
        obtain ⟨m0, m1, m2⟩ : 4 ≤ m ∧ m ≤ (tl.length : Int) ∧ os.length ≤ 16 := by omega
        have q3 : (m == 0) = false := beq_eq_false_iff_ne.2 (by omega)
        clear he hi hsf hso hm hok
        have m3 := Aside0.mk hld
        clear hld
        have hyl : Aside0 (xs.length + os.length ≤ 16 * l0.length + 16) := ⟨by have h1 := hlen.out; have h2 := m3.out; omega⟩
        go_wp2_with (first | (go_at_call 52; (with_reducible refine (impl_block.calls 4100 A1 _ tl os m _ (FX.out.oldC hA.out) hC.out HF.out).mono ?_); rintro e w8 ⟨vb, rfl, h11, b9⟩; obtain ⟨S10, q12⟩ := FX.out.laid h11 b9; have FX7 := Aside0.mk q12; clear q12 h11 b9; clear FX; obtain ⟨Ao, co, eo⟩ := Kd.R_slice (FX7.out.rowOf 0 rfl); subst eo) | ((with_reducible refine gate_builtin (b := .append) (xs := #[.tmp 23, .tmp 24]) rfl ?_); at_builtin; refine Kd.R_append_rows k24 (w0 := w) w.heap.size rfl (.tmp 23) (.tmp 24) 35 24 (.agg #[(.int .i64 0), (.int .i64 0), (.int .i64 0)]) 24 rfl Try.underlying35 info24 rfl (by decide) (by omega) u5 xs os _ _ _ (fun k_ => (S k_ ∨ w8.heap.size ≤ k_)) (fun _ => False) (by first | rfl | (go_simp; done) | (go_simp; rfl)) (by first | rfl | (go_simp; done) | (go_simp; rfl)) (FX7.out.rowFor 1 rfl) ?aR (fun _ _ h => h) (fun _ h => h.elim) (fun _ hk => .inr hk) FX7.out.below FX7.out.below.size ?aL ?_; (case aR => exact (Kd.R_reads' (FX7.out.rowOf 0 rfl)).2.2); (case aL => have := hyl.out; omega); intro v5' w13 h16 hb_ g17 hn_; obtain ⟨S15, q18⟩ := FX7.out.append 1 rfl h16 g17; have FX14 := Aside0.mk q18; clear q18 h16 hb_ g17 hn_))
        go_roundg kq
        case measure => have := hg.out; omega
        case rel => exact ⟨a + m, _, _, by omega, by have := m3.out; omega, ⟨by have := hg.out; omega⟩, by first | rfl | (have := m3.out; have e_ : wrap64 (a + m) = a + m := (by unfold wrap64; omega); rw [e_]), ⟨by have := hlen.out; simp; omega⟩, HE, ⟨FX14.out.tail⟩⟩
  case rest =>
    clear HRES
    obtain ⟨S, rfl, FX⟩ := hcut
    obtain ⟨i5, hi5, hz5⟩ := Option.map_eq_some_iff.1 info5
    simp only [Prod.mk.injEq] at hz5
    obtain ⟨_, hs5, _⟩ := hz5
    obtain ⟨A1, hsl, hA, hC⟩ := print_drop_of (P := Try.prog) (Value.int .u8) 0 22 5 .i64 Try.underlying22 hi5 hs5 A0 c0 l0 ra (by omega) (by omega) hc0'.out
    clear hi5 hs5
    have hrl := HR.out
    replace hA : Kd.C (Kd.int .u8) w A1 _ (l0.drop ra.toNat) := Kd.C_of_reads (h1 := fun _ => rfl) (hA _ (Kd.reads_of_C hrl))
    clear hrl
    have hbt := drop_bytes HBY.out ra.toNat
    have hst := HST.out
    clear HST
    have hld : ((l0.drop ra.toNat).length : Int) = l0.length - ra := by rw [List.length_drop]; omega
    generalize hd : l0.drop ra.toNat = tl at *
    clear hd hC hld
    unfold statusOf at hst
    by_cases t0 : tl.length = 0
    · rw [if_pos t0] at hst
      subst hst
      have q1 : ((tl.length : Int) == 0) = true := by simp [t0]
      have q2 : (tl.length == 0) = true := by simp [t0]
      clear hA hbt t0
      go_wp2
      go_ret3
      exact ⟨_, rfl, FX.out.rowTrue 0 rfl, FX.out.below⟩
    · rw [if_neg t0] at hst
      have q1 : ((tl.length : Int) == 0) = false := by simp [t0]
      have q2 : (tl.length == 0) = false := by simp [t0]
      by_cases t1 : tl.length < 2
      · rw [if_pos t1] at hst
        subst hst
        have q3 : decide ((tl.length : Int) < 2) = true := decide_eq_true (by omega)
        have q4 : decide (tl.length < 2) = true := decide_eq_true t1
        clear hA hbt t0 t1
        go_wp2
        go_ret3
        exact ⟨_, rfl, FX.out.rowTrue 0 rfl, FX.out.below⟩
      · rw [if_neg t1] at hst
        have q3 : decide ((tl.length : Int) < 2) = false := decide_eq_false (by omega)
        have q4 : decide (tl.length < 2) = false := decide_eq_false t1
        obtain ⟨ad, e0, hx0⟩ := Kd.at_int hA 0 (by omega) (by omega)
        obtain ⟨y00, y01⟩ := byte_at hbt 0
        obtain ⟨y10, y11⟩ := byte_at hbt 1
        obtain ⟨ad', e1, hx1⟩ := Kd.at_int hA 1 (by omega) (by omega)
        obtain rfl : ad = ad' := by rw [e0] at e1; injection e1
        subst e0
        clear e1
        replace hx0 : w.cell? ad = some (.int .u8 (rd tl 0)) := by rw [← add_nil ad]; exact hx0
        replace hx1 : w.cell? ⟨ad.block, ad.off + 1, none⟩ = some (.int .u8 (rd tl 1)) := by rw [← add_lit ad 1 (by omega)]; exact hx1
        have HX0 := Aside0.mk hx0
        have HX1 := Aside0.mk hx1
        clear hx0 hx1 hA hbt
        have hx0 := FX.out.old HX0.out
        have hx1 := FX.out.old HX1.out
        by_cases c1 : 1 ≤ rd tl 0 ∧ rd tl 0 ≤ 16
        · by_cases c2 : 1 ≤ rd tl 1 ∧ rd tl 1 ≤ 32
          · by_cases c3 : (tl.length : Int) < rd tl 1 + 4
            · rw [if_pos ⟨c1.1, c1.2, c2.1, c2.2, c3⟩] at hst
              subst hst
              have q5 : decide ((tl.length : Int) < rd tl 1 + 4) = true := decide_eq_true c3
              go_wp2_with (first | (go_at_call 38; (with_reducible refine (impl_within.calls (rd tl 0) 1 16 true _ (by rw [within_tells]; exact congrArg some (by first | exact decide_eq_true (by omega) | exact decide_eq_false (by omega)))).mono ?_); rintro e w20 ⟨rfl, b21⟩; have FX19 := Aside0.mk (FX.out.call b21.below); clear b21; clear FX; clear hx0 hx1; have hx0 := FX19.out.old HX0.out; have hx1 := FX19.out.old HX1.out) | (go_at_call 38; (with_reducible refine (impl_within.calls (rd tl 1) 1 32 true _ (by rw [within_tells]; exact congrArg some (by first | exact decide_eq_true (by omega) | exact decide_eq_false (by omega)))).mono ?_); rintro e w23 ⟨rfl, b24⟩; have FX22 := Aside0.mk (FX19.out.call b24.below); clear b24; clear FX19; clear hx0 hx1; have hx0 := FX22.out.old HX0.out; have hx1 := FX22.out.old HX1.out))
              go_ret3
              exact ⟨_, rfl, FX22.out.rowTrue 0 rfl, FX22.out.below⟩
            · rw [if_neg (fun q => c3 q.2.2.2.2)] at hst
              subst hst
              have q5 : decide ((tl.length : Int) < rd tl 1 + 4) = false := decide_eq_false c3
              go_wp2_with (first | (go_at_call 38; (with_reducible refine (impl_within.calls (rd tl 0) 1 16 true _ (by rw [within_tells]; exact congrArg some (by first | exact decide_eq_true (by omega) | exact decide_eq_false (by omega)))).mono ?_); rintro e w26 ⟨rfl, b27⟩; have FX25 := Aside0.mk (FX.out.call b27.below); clear b27; clear FX; clear hx0 hx1; have hx0 := FX25.out.old HX0.out; have hx1 := FX25.out.old HX1.out) | (go_at_call 38; (with_reducible refine (impl_within.calls (rd tl 1) 1 32 true _ (by rw [within_tells]; exact congrArg some (by first | exact decide_eq_true (by omega) | exact decide_eq_false (by omega)))).mono ?_); rintro e w29 ⟨rfl, b30⟩; have FX28 := Aside0.mk (FX25.out.call b30.below); clear b30; clear FX25; clear hx0 hx1; have hx0 := FX28.out.old HX0.out; have hx1 := FX28.out.old HX1.out))
              go_ret3
              exact ⟨_, rfl, FX28.out.rowTrue 0 rfl, FX28.out.below⟩
          · rw [if_neg (fun q => c2 ⟨q.2.2.1, q.2.2.2.1⟩)] at hst
            subst hst
            go_wp2_with (first | (go_at_call 38; (with_reducible refine (impl_within.calls (rd tl 0) 1 16 true _ (by rw [within_tells]; exact congrArg some (by first | exact decide_eq_true (by omega) | exact decide_eq_false (by omega)))).mono ?_); rintro e w32 ⟨rfl, b33⟩; have FX31 := Aside0.mk (FX.out.call b33.below); clear b33; clear FX; clear hx0 hx1; have hx0 := FX31.out.old HX0.out; have hx1 := FX31.out.old HX1.out) | (go_at_call 38; (with_reducible refine (impl_within.calls (rd tl 1) 1 32 false _ (by rw [within_tells]; exact congrArg some (by first | exact decide_eq_true (by omega) | exact decide_eq_false (by omega)))).mono ?_); rintro e w35 ⟨rfl, b36⟩; have FX34 := Aside0.mk (FX31.out.call b36.below); clear b36; clear FX31; clear hx0 hx1; have hx0 := FX34.out.old HX0.out; have hx1 := FX34.out.old HX1.out))
            go_ret3
            exact ⟨_, rfl, FX34.out.rowTrue 0 rfl, FX34.out.below⟩
        · rw [if_neg (fun q => c1 ⟨q.1, q.2.1⟩)] at hst
          subst hst
          go_wp2_with (first | (go_at_call 38; (with_reducible refine (impl_within.calls (rd tl 0) 1 16 false _ (by rw [within_tells]; exact congrArg some (by first | exact decide_eq_true (by omega) | exact decide_eq_false (by omega)))).mono ?_); rintro e w38 ⟨rfl, b39⟩; have FX37 := Aside0.mk (FX.out.call b39.below); clear b39; clear FX; clear hx0 hx1; have hx0 := FX37.out.old HX0.out; have hx1 := FX37.out.old HX1.out))
          go_ret3
          exact ⟨_, rfl, FX37.out.rowTrue 0 rfl, FX37.out.below⟩
def impl_ScanOps.f (l0 : List Int) : Option (List S24 × Int × Int) := if ∀ x ∈ l0, 0 ≤ x ∧ x ≤ 255 then some (scanS l0) else none
theorem impl_ScanOps.calls (A0 : Option Addr) (c0 : Nat) (l0 : List Int) (r1 : List S24) (r2 r3 : Int) (w : World) (hr0 : Kd.C (Kd.int .u8) w A0 l0.length l0) (hc0 : l0.length ≤ c0) (h : impl_ScanOps.f l0 = some (r1, r2, r3)) :
    Calls Try.prog 26 #[.slice A0 l0.length c0] w fun e w' => ∃ v0_ : Value, e = .returned (.tuple #[v0_, .int .i64 (r2), .int .i64 (r3)]) ∧ Kd.R k24 24 w' w.heap.size (fun _ => True) v0_ (r1) ∧ Below w.heap.size w w' := by
  unfold impl_ScanOps.f at h
  by_cases hby : ∀ x ∈ l0, 0 ≤ x ∧ x ≤ 255
  · rw [if_pos hby] at h
    have h' := Option.some.inj h
    clear h
    unfold scanS at h'
    by_cases h0 : 4000 < (l0.length : Int)
    · rw [if_pos h0] at h'
      simp only [Prod.mk.injEq] at h'
      obtain ⟨rfl, rfl, rfl⟩ := h'
      exact impl_ScanOps.A A0 c0 l0 w hr0 hc0 hby h0
    rw [if_neg h0] at h'
    simp only [Prod.mk.injEq] at h'
    obtain ⟨rfl, rfl, rfl⟩ := h'
    exact impl_ScanOps.B A0 c0 l0 w hr0 hc0 hby h0 _ _ rfl rfl
  · rw [if_neg hby] at h
    cases h

/-! ### impl_PackOp: function 60 -/
def impl_PackOp.f (k : Nat) (a0_0 : Int) (a0_1 : Int) (a0_2 : Int) : Option (List Int) := (impl_OpOk.f k a0_0 a0_1 a0_2).bind fun t162 => (if t162 = true then ((impl_hasX.f a0_0).bind fun t163 => (if t163 = true then (some (([(wrap64 ((wrap64 (5 * a0_0)) + a0_1)) % 256, (a0_2) % 256] : List Int))) else (some (([(wrap64 ((wrap64 (5 * a0_0)) + a0_1)) % 256] : List Int))))) else (some ([] : List Int)))
theorem impl_PackOp.mono : ∀ a0 a1 a2 k, LeO (impl_PackOp.f k a0 a1 a2) (impl_PackOp.f (k + 1) a0 a1 a2) := by
  intro a0 a1 a2 k
  unfold impl_PackOp.f
  repeat' first
      | (with_reducible exact impl_OpOk.mono _ _ _ _)
      | (with_reducible exact LeO.refl _)
      | (with_reducible exact LeO.none _)
      | (with_reducible refine LeO.ite ?_ ?_)
      | (with_reducible refine LeO.bind ?_ (fun _ => ?_))
      | exact impl_OpOk.mono _ _ _ _
      | exact LeO.none _
      | refine LeO.ite ?_ ?_
      | refine LeO.bind ?_ (fun _ => ?_)
set_option maxHeartbeats 8000000 in
set_option maxRecDepth 100000 in
theorem impl_PackOp.calls (k : Nat) (a0_0 : Int) (a0_1 : Int) (a0_2 : Int) (r : List Int) (w : World) (h : impl_PackOp.f k a0_0 a0_1 a0_2 = some r) :
    Calls Try.prog 60 #[.agg #[.int .i64 a0_0, .int .i64 a0_1, .int .i64 a0_2]] w fun e w' => ∃ v0_ : Value, e = .returned (v0_) ∧ Kd.R (Kd.int .u8) 5 w' w.heap.size (fun _ => True) v0_ r ∧ Below w.heap.size w w' := by
  have hu24 := Try.underlying24
  have HB := Aside0.mk (Below.refl w.heap.size w)
  have H : ((impl_OpOk.f k a0_0 a0_1 a0_2).bind fun t162 => (if t162 = true then ((impl_hasX.f a0_0).bind fun t163 => (if t163 = true then (some (([(wrap64 ((wrap64 (5 * a0_0)) + a0_1)) % 256, (a0_2) % 256] : List Int))) else (some (([(wrap64 ((wrap64 (5 * a0_0)) + a0_1)) % 256] : List Int))))) else (some ([] : List Int)))) = some r := h
  clear h
  replace H := Option.bind_eq_some_iff.mp H
  obtain ⟨t162, A20, H⟩ := H
  replace H : (if t162 = true then ((impl_hasX.f a0_0).bind fun t163 => (if t163 = true then (some (([(wrap64 ((wrap64 (5 * a0_0)) + a0_1)) % 256, (a0_2) % 256] : List Int))) else (some (([(wrap64 ((wrap64 (5 * a0_0)) + a0_1)) % 256] : List Int))))) else (some ([] : List Int))) = some r := H
  have A2 := Aside0.mk A20
  clear A20
  by_cases c3 : t162 = true
  · subst c3
    have H1 : ((impl_hasX.f a0_0).bind fun t163 => (if t163 = true then (some (([(wrap64 ((wrap64 (5 * a0_0)) + a0_1)) % 256, (a0_2) % 256] : List Int))) else (some (([(wrap64 ((wrap64 (5 * a0_0)) + a0_1)) % 256] : List Int))))) = some r := by rw [if_pos rfl] at H; exact H
    clear H
    have H := H1
    clear H1
    replace H := Option.bind_eq_some_iff.mp H
    obtain ⟨t163, A40, H⟩ := H
    replace H : (if t163 = true then (some (([(wrap64 ((wrap64 (5 * a0_0)) + a0_1)) % 256, (a0_2) % 256] : List Int))) else (some (([(wrap64 ((wrap64 (5 * a0_0)) + a0_1)) % 256] : List Int)))) = some r := H
    have A4 := Aside0.mk A40
    clear A40
    by_cases c5 : t163 = true
    · subst c5
      have H1 : (some (([(wrap64 ((wrap64 (5 * a0_0)) + a0_1)) % 256, (a0_2) % 256] : List Int))) = some r := by rw [if_pos rfl] at H; exact H
      clear H
      have H := H1
      clear H1
      obtain ⟨y164, hy164⟩ : ∃ y_ : List Int, y_ = (([(wrap64 ((wrap64 (5 * a0_0)) + a0_1)) % 256, (a0_2) % 256] : List Int)) := ⟨_, rfl⟩
      replace H : (some y164) = some r := by first | (rw [hy164]; with_reducible exact H) | (have H2_ := (Option.bind_some _ _).symm.trans H; rw [hy164]; with_reducible exact H2_) | (have H2_ := (Option.bind_some _ _).symm.trans H; with_reducible exact H2_) | with_reducible exact H | (rw [hy164]; exact H) | exact H
      have Ny164 := Aside0.mk hy164
      clear hy164
      obtain rfl := Option.some.inj H
      go_enter Try.func60, Try.ntmps60
      go_wp2_with (first | ((with_reducible refine gate_dst (N := 1) rfl ?_); refine box_event ?hg (N := 1) ?hd (cs := #[.int .i64 a0_0, .int .i64 a0_1, .int .i64 a0_2]) (t := 24) ?hr ?_; (case hd => rfl); (case hg => rfl); (case hr => first | (go_simp; done) | (go_simp; rfl)); intro gb161 hg w6 hbox hb; have n0_ := Aside0.mk (below_step (by repeat (first | (with_reducible first | exact HB.out | apply below_alloc | apply pw_below_drewN | apply below_drew1) | exact HB.out)) hb); have n1_ := Aside0.mk (hbox); have n2_ := Aside0.mk ((by rw [hg]; exact (below_size (by repeat (first | (with_reducible first | exact HB.out | apply below_alloc | apply pw_below_drewN | apply below_drew1) | exact HB.out))) : w.heap.size ≤ gb161)); have n3_ := Aside0.mk ((by rw [hg]; exact (below_size (by repeat (first | (with_reducible first | exact HB.out | apply below_alloc | apply pw_below_drewN | apply below_drew1) | exact HB.out))) : w.heap.size ≤ gb161)); clear HB; have HB := n0_; have BK161 := n1_; have GW161 := n2_; have GE161 := n3_; clear n0_ n1_ n2_ n3_; clear hb hbox hg; have hcz7_0 : w6.cell? ⟨gb161, 0, none⟩ = some (.int .i64 a0_0) := (blk_cell BK161.out 0).trans rfl; have hcz7_1 : w6.cell? ⟨gb161, 1, none⟩ = some (.int .i64 a0_1) := (blk_cell BK161.out 1).trans rfl; have hcz7_2 : w6.cell? ⟨gb161, 2, none⟩ = some (.int .i64 a0_2) := (blk_cell BK161.out 2).trans rfl; have hfz7_0 := blk_frozen BK161.out 0; have hfz7_1 := blk_frozen BK161.out 1; have hfz7_2 := blk_frozen BK161.out 2) | ((with_reducible refine gate_callee (f := 40) rfl ?_); refine goesL_ (some 5) rfl rfl Try.func40 (by kernel_rfl) rfl #[.agg #[.int .i64 a0_0, .int .i64 a0_1, .int .i64 a0_2]] rfl (by (try simp only [List.map_toArray, List.map_cons, List.map_nil]); first | done | rfl | (simp only [List.length_drop, List.length_take]; rfl)) ?_; (with_reducible refine (impl_OpOk.calls k a0_0 a0_1 a0_2 true _ A2.out).mono ?_); rintro e w8 ⟨rfl, hb⟩; refine ⟨_, rfl, ?_⟩; have n0_ := Aside0.mk (blk_below (g := gb161) (o := .cells #[.int .i64 a0_0, .int .i64 a0_1, .int .i64 a0_2] 24 (0, 0)) (by (with_reducible repeat (first | refine blk_drewN ?_ _ | refine blk_drew ?_ | refine blk_alloc ?_ _)); exact BK161.out) hb); have n1_ := Aside0.mk (below_step (by repeat (first | (with_reducible first | exact HB.out | apply below_alloc | apply pw_below_drewN | apply below_drew1 | refine below_set ?_ GE161.out) | exact HB.out)) hb); clear BK161; clear HB; have BK161 := n0_; have HB := n1_; clear n0_ n1_; (try clear hb); (try clear hb2); (try clear hk); (try clear hi); have hcz9_0 : w8.cell? ⟨gb161, 0, none⟩ = some (.int .i64 a0_0) := (blk_cell BK161.out 0).trans rfl; have hcz9_1 : w8.cell? ⟨gb161, 1, none⟩ = some (.int .i64 a0_1) := (blk_cell BK161.out 1).trans rfl; have hcz9_2 : w8.cell? ⟨gb161, 2, none⟩ = some (.int .i64 a0_2) := (blk_cell BK161.out 2).trans rfl; have hfz9_0 := blk_frozen BK161.out 0; have hfz9_1 := blk_frozen BK161.out 1; have hfz9_2 := blk_frozen BK161.out 2) | ((with_reducible refine gate_callee (f := 39) rfl ?_); refine goesL_ (some 10) rfl rfl Try.func39 (by kernel_rfl) rfl #[.int .i64 a0_0] rfl (by (try simp only [List.map_toArray, List.map_cons, List.map_nil]); first | done | rfl | (simp only [List.length_drop, List.length_take]; rfl)) ?_; (with_reducible refine (impl_hasX.calls a0_0 true _ A4.out).mono ?_); rintro e w' ⟨rfl, ⟨nd, rfl⟩⟩; refine ⟨_, rfl, ?_⟩) | ((with_reducible refine gate_dst (N := 21) rfl ?_); refine Kd.R_lit (Kd.int .u8) _ 5 ?hg (N := 21) ?hd (xs := ([(wrap64 ((wrap64 (5 * a0_0)) + a0_1)) % 256, (a0_2) % 256] : List Int)) (inner := [.int .u8 ((wrap64 ((wrap64 (5 * a0_0)) + a0_1)) % 256), .int .u8 ((a0_2) % 256)]) (ok := fun _ => True) (okp := fun _ => True) ?hr ?hp (fun _ hk => hk) trivial (Below.refl _ _) (Nat.le_refl _) (by simp) ?_; (case hd => rfl); (case hg => rfl); (case hr => first | (go_simp; done) | (go_simp; rfl)); (case hp => exact (Reps.one (show Kd.M (Kd.int .u8) _ _ _ ((wrap64 ((wrap64 (5 * a0_0)) + a0_1)) % 256) [.int .u8 ((wrap64 ((wrap64 (5 * a0_0)) + a0_1)) % 256)] from rfl) (Reps.one (show Kd.M (Kd.int .u8) _ _ _ ((a0_2) % 256) [.int .u8 ((a0_2) % 256)] from rfl) (Reps.none _ _)))); intro v165 w10 ho11 hb hg_ hnew_; clear hg_ hnew_; (first | rw [← Ny164.out] at ho11 | (simp only [Int.reduceToNat] at ho11; rw [← Ny164.out] at ho11)); have n0_ := Aside0.mk (Kd.R_lower ho11 (below_size (by repeat (first | (with_reducible first | exact HB.out | apply below_alloc | apply pw_below_drewN | apply below_drew1 | refine below_set ?_ GE161.out) | exact HB.out)))); have n1_ := Aside0.mk (blk_below (g := gb161) (o := .cells #[.int .i64 a0_0, .int .i64 a0_1, .int .i64 a0_2] 24 (0, 0)) (by (with_reducible repeat (first | refine blk_drewN ?_ _ | refine blk_drew ?_ | refine blk_alloc ?_ _)); exact BK161.out) hb); have n2_ := Aside0.mk (below_step (by repeat (first | (with_reducible first | exact HB.out | apply below_alloc | apply pw_below_drewN | apply below_drew1 | refine below_set ?_ GE161.out) | exact HB.out)) hb); clear BK161; clear HB; have HO166 := n0_; have BK161 := n1_; have HB := n2_; clear n0_ n1_ n2_; clear hb ho11))
      go_ret
      exact ⟨_, by first | rfl | (simp [errW_none, errW_some] <;> rfl) | (simp [*, errW_none, errW_some] <;> rfl), by (with_reducible repeat (first | apply Kd.R_alloc | apply Kd.R_drewN | apply Kd.R_drew)); exact HO166.out, by repeat (first | (with_reducible first | exact HB.out | apply below_alloc | apply pw_below_drewN | apply below_drew1 | refine below_set ?_ GE161.out) | exact HB.out)⟩
    · replace c5 := Bool.eq_false_iff.mpr c5
      subst c5
      have H1 : (some (([(wrap64 ((wrap64 (5 * a0_0)) + a0_1)) % 256] : List Int))) = some r := by rw [if_neg (show ¬ (false = true) by decide)] at H; exact H
      clear H
      have H := H1
      clear H1
      obtain ⟨y167, hy167⟩ : ∃ y_ : List Int, y_ = (([(wrap64 ((wrap64 (5 * a0_0)) + a0_1)) % 256] : List Int)) := ⟨_, rfl⟩
      replace H : (some y167) = some r := by first | (rw [hy167]; with_reducible exact H) | (have H2_ := (Option.bind_some _ _).symm.trans H; rw [hy167]; with_reducible exact H2_) | (have H2_ := (Option.bind_some _ _).symm.trans H; with_reducible exact H2_) | with_reducible exact H | (rw [hy167]; exact H) | exact H
      have Ny167 := Aside0.mk hy167
      clear hy167
      obtain rfl := Option.some.inj H
      go_enter Try.func60, Try.ntmps60
      go_wp2_with (first | ((with_reducible refine gate_dst (N := 1) rfl ?_); refine box_event ?hg (N := 1) ?hd (cs := #[.int .i64 a0_0, .int .i64 a0_1, .int .i64 a0_2]) (t := 24) ?hr ?_; (case hd => rfl); (case hg => rfl); (case hr => first | (go_simp; done) | (go_simp; rfl)); intro gb161 hg w12 hbox hb; have n0_ := Aside0.mk (below_step (by repeat (first | (with_reducible first | exact HB.out | apply below_alloc | apply pw_below_drewN | apply below_drew1) | exact HB.out)) hb); have n1_ := Aside0.mk (hbox); have n2_ := Aside0.mk ((by rw [hg]; exact (below_size (by repeat (first | (with_reducible first | exact HB.out | apply below_alloc | apply pw_below_drewN | apply below_drew1) | exact HB.out))) : w.heap.size ≤ gb161)); have n3_ := Aside0.mk ((by rw [hg]; exact (below_size (by repeat (first | (with_reducible first | exact HB.out | apply below_alloc | apply pw_below_drewN | apply below_drew1) | exact HB.out))) : w.heap.size ≤ gb161)); clear HB; have HB := n0_; have BK161 := n1_; have GW161 := n2_; have GE161 := n3_; clear n0_ n1_ n2_ n3_; clear hb hbox hg; have hcz13_0 : w12.cell? ⟨gb161, 0, none⟩ = some (.int .i64 a0_0) := (blk_cell BK161.out 0).trans rfl; have hcz13_1 : w12.cell? ⟨gb161, 1, none⟩ = some (.int .i64 a0_1) := (blk_cell BK161.out 1).trans rfl; have hcz13_2 : w12.cell? ⟨gb161, 2, none⟩ = some (.int .i64 a0_2) := (blk_cell BK161.out 2).trans rfl; have hfz13_0 := blk_frozen BK161.out 0; have hfz13_1 := blk_frozen BK161.out 1; have hfz13_2 := blk_frozen BK161.out 2) | ((with_reducible refine gate_callee (f := 40) rfl ?_); refine goesL_ (some 5) rfl rfl Try.func40 (by kernel_rfl) rfl #[.agg #[.int .i64 a0_0, .int .i64 a0_1, .int .i64 a0_2]] rfl (by (try simp only [List.map_toArray, List.map_cons, List.map_nil]); first | done | rfl | (simp only [List.length_drop, List.length_take]; rfl)) ?_; (with_reducible refine (impl_OpOk.calls k a0_0 a0_1 a0_2 true _ A2.out).mono ?_); rintro e w14 ⟨rfl, hb⟩; refine ⟨_, rfl, ?_⟩; have n0_ := Aside0.mk (blk_below (g := gb161) (o := .cells #[.int .i64 a0_0, .int .i64 a0_1, .int .i64 a0_2] 24 (0, 0)) (by (with_reducible repeat (first | refine blk_drewN ?_ _ | refine blk_drew ?_ | refine blk_alloc ?_ _)); exact BK161.out) hb); have n1_ := Aside0.mk (below_step (by repeat (first | (with_reducible first | exact HB.out | apply below_alloc | apply pw_below_drewN | apply below_drew1 | refine below_set ?_ GE161.out) | exact HB.out)) hb); clear BK161; clear HB; have BK161 := n0_; have HB := n1_; clear n0_ n1_; (try clear hb); (try clear hb2); (try clear hk); (try clear hi); have hcz15_0 : w14.cell? ⟨gb161, 0, none⟩ = some (.int .i64 a0_0) := (blk_cell BK161.out 0).trans rfl; have hcz15_1 : w14.cell? ⟨gb161, 1, none⟩ = some (.int .i64 a0_1) := (blk_cell BK161.out 1).trans rfl; have hcz15_2 : w14.cell? ⟨gb161, 2, none⟩ = some (.int .i64 a0_2) := (blk_cell BK161.out 2).trans rfl; have hfz15_0 := blk_frozen BK161.out 0; have hfz15_1 := blk_frozen BK161.out 1; have hfz15_2 := blk_frozen BK161.out 2) | ((with_reducible refine gate_callee (f := 39) rfl ?_); refine goesL_ (some 10) rfl rfl Try.func39 (by kernel_rfl) rfl #[.int .i64 a0_0] rfl (by (try simp only [List.map_toArray, List.map_cons, List.map_nil]); first | done | rfl | (simp only [List.length_drop, List.length_take]; rfl)) ?_; (with_reducible refine (impl_hasX.calls a0_0 false _ A4.out).mono ?_); rintro e w' ⟨rfl, ⟨nd, rfl⟩⟩; refine ⟨_, rfl, ?_⟩) | ((with_reducible refine gate_dst (N := 29) rfl ?_); refine Kd.R_lit (Kd.int .u8) _ 5 ?hg (N := 29) ?hd (xs := ([(wrap64 ((wrap64 (5 * a0_0)) + a0_1)) % 256] : List Int)) (inner := [.int .u8 ((wrap64 ((wrap64 (5 * a0_0)) + a0_1)) % 256)]) (ok := fun _ => True) (okp := fun _ => True) ?hr ?hp (fun _ hk => hk) trivial (Below.refl _ _) (Nat.le_refl _) (by simp) ?_; (case hd => rfl); (case hg => rfl); (case hr => first | (go_simp; done) | (go_simp; rfl)); (case hp => exact (Reps.one (show Kd.M (Kd.int .u8) _ _ _ ((wrap64 ((wrap64 (5 * a0_0)) + a0_1)) % 256) [.int .u8 ((wrap64 ((wrap64 (5 * a0_0)) + a0_1)) % 256)] from rfl) (Reps.none _ _))); intro v168 w16 ho17 hb hg_ hnew_; clear hg_ hnew_; (first | rw [← Ny167.out] at ho17 | (simp only [Int.reduceToNat] at ho17; rw [← Ny167.out] at ho17)); have n0_ := Aside0.mk (Kd.R_lower ho17 (below_size (by repeat (first | (with_reducible first | exact HB.out | apply below_alloc | apply pw_below_drewN | apply below_drew1 | refine below_set ?_ GE161.out) | exact HB.out)))); have n1_ := Aside0.mk (blk_below (g := gb161) (o := .cells #[.int .i64 a0_0, .int .i64 a0_1, .int .i64 a0_2] 24 (0, 0)) (by (with_reducible repeat (first | refine blk_drewN ?_ _ | refine blk_drew ?_ | refine blk_alloc ?_ _)); exact BK161.out) hb); have n2_ := Aside0.mk (below_step (by repeat (first | (with_reducible first | exact HB.out | apply below_alloc | apply pw_below_drewN | apply below_drew1 | refine below_set ?_ GE161.out) | exact HB.out)) hb); clear BK161; clear HB; have HO169 := n0_; have BK161 := n1_; have HB := n2_; clear n0_ n1_ n2_; clear hb ho17))
      go_ret
      exact ⟨_, by first | rfl | (simp [errW_none, errW_some] <;> rfl) | (simp [*, errW_none, errW_some] <;> rfl), by (with_reducible repeat (first | apply Kd.R_alloc | apply Kd.R_drewN | apply Kd.R_drew)); exact HO169.out, by repeat (first | (with_reducible first | exact HB.out | apply below_alloc | apply pw_below_drewN | apply below_drew1 | refine below_set ?_ GE161.out) | exact HB.out)⟩
  · replace c3 := Bool.eq_false_iff.mpr c3
    subst c3
    have H1 : (some ([] : List Int)) = some r := by rw [if_neg (show ¬ (false = true) by decide)] at H; exact H
    clear H
    have H := H1
    clear H1
    obtain rfl := Option.some.inj H
    go_enter Try.func60, Try.ntmps60
    go_wp2_with (first | ((with_reducible refine gate_dst (N := 1) rfl ?_); refine box_event ?hg (N := 1) ?hd (cs := #[.int .i64 a0_0, .int .i64 a0_1, .int .i64 a0_2]) (t := 24) ?hr ?_; (case hd => rfl); (case hg => rfl); (case hr => first | (go_simp; done) | (go_simp; rfl)); intro gb161 hg w18 hbox hb; have n0_ := Aside0.mk (below_step (by repeat (first | (with_reducible first | exact HB.out | apply below_alloc | apply pw_below_drewN | apply below_drew1) | exact HB.out)) hb); have n1_ := Aside0.mk (hbox); have n2_ := Aside0.mk ((by rw [hg]; exact (below_size (by repeat (first | (with_reducible first | exact HB.out | apply below_alloc | apply pw_below_drewN | apply below_drew1) | exact HB.out))) : w.heap.size ≤ gb161)); have n3_ := Aside0.mk ((by rw [hg]; exact (below_size (by repeat (first | (with_reducible first | exact HB.out | apply below_alloc | apply pw_below_drewN | apply below_drew1) | exact HB.out))) : w.heap.size ≤ gb161)); clear HB; have HB := n0_; have BK161 := n1_; have GW161 := n2_; have GE161 := n3_; clear n0_ n1_ n2_ n3_; clear hb hbox hg; have hcz19_0 : w18.cell? ⟨gb161, 0, none⟩ = some (.int .i64 a0_0) := (blk_cell BK161.out 0).trans rfl; have hcz19_1 : w18.cell? ⟨gb161, 1, none⟩ = some (.int .i64 a0_1) := (blk_cell BK161.out 1).trans rfl; have hcz19_2 : w18.cell? ⟨gb161, 2, none⟩ = some (.int .i64 a0_2) := (blk_cell BK161.out 2).trans rfl; have hfz19_0 := blk_frozen BK161.out 0; have hfz19_1 := blk_frozen BK161.out 1; have hfz19_2 := blk_frozen BK161.out 2) | ((with_reducible refine gate_callee (f := 40) rfl ?_); refine goesL_ (some 5) rfl rfl Try.func40 (by kernel_rfl) rfl #[.agg #[.int .i64 a0_0, .int .i64 a0_1, .int .i64 a0_2]] rfl (by (try simp only [List.map_toArray, List.map_cons, List.map_nil]); first | done | rfl | (simp only [List.length_drop, List.length_take]; rfl)) ?_; (with_reducible refine (impl_OpOk.calls k a0_0 a0_1 a0_2 false _ A2.out).mono ?_); rintro e w20 ⟨rfl, hb⟩; refine ⟨_, rfl, ?_⟩; have n0_ := Aside0.mk (blk_below (g := gb161) (o := .cells #[.int .i64 a0_0, .int .i64 a0_1, .int .i64 a0_2] 24 (0, 0)) (by (with_reducible repeat (first | refine blk_drewN ?_ _ | refine blk_drew ?_ | refine blk_alloc ?_ _)); exact BK161.out) hb); have n1_ := Aside0.mk (below_step (by repeat (first | (with_reducible first | exact HB.out | apply below_alloc | apply pw_below_drewN | apply below_drew1 | refine below_set ?_ GE161.out) | exact HB.out)) hb); clear BK161; clear HB; have BK161 := n0_; have HB := n1_; clear n0_ n1_; (try clear hb); (try clear hb2); (try clear hk); (try clear hi)))
    go_ret
    exact ⟨_, by first | rfl | (simp [errW_none, errW_some] <;> rfl) | (simp [*, errW_none, errW_some] <;> rfl), by first | exact Kd.R_nil _ _ _ _ _ | exact Kd.N_nil _ _ _ _ _ | exact Kd.V_nil _ _ _ _ _ | exact Kd.Q_nil _ _ _ _ _ | exact Kd.S_nil _ _ _ _ _, by repeat (first | (with_reducible first | exact HB.out | apply below_alloc | apply pw_below_drewN | apply below_drew1 | refine below_set ?_ GE161.out) | exact HB.out)⟩

/-! ### impl_packed: function 47 -/
mutual
def impl_packed.l0 : Nat → List (S24) → List Int → Option (List Int)
  | 0, _, _ => none
  | k + 1, x0, x3 => if (x0.length : Int) > 0 then (if 0 ≤ (mn 16 (x0.length : Int)) then (if (mn 16 (x0.length : Int)) ≤ (x0.length : Int) then ((some (x0.take ((mn 16 (x0.length : Int)) : Int).toNat : List (S24))).bind fun y176 => (impl_packed.l1 k x0 x3 (mn 16 (x0.length : Int)) (([] : List Int)) y176 (y176.length : Int) 0)) else (none)) else (none)) else (some x3)
def impl_packed.l1 : Nat → List (S24) → List Int → Int → List Int → List (S24) → Int → Int → Option (List Int)
  | 0, _, _, _, _, _, _, _ => none
  | k + 1, x0, x3, x4, x5, x18, x19, x20 => if x20 < x19 then (if 0 ≤ x20 then (if x20 < (x18.length : Int) then ((impl_PackOp.f k ((rd_T24 x18 x20).f0) ((rd_T24 x18 x20).f1) ((rd_T24 x18 x20).f2)).bind fun t183 => (if x5.length + t183.length < 140737488355328 then (impl_packed.l1 k x0 x3 x4 (x5 ++ t183) x18 x19 (wrap64 (x20 + 1))) else (none))) else (none)) else (none)) else ((some (([(x4) % 256, ((x5.length : Int)) % 256] : List Int) : List Int)).bind fun y189 => (if y189.length + x5.length < 140737488355328 then ((impl_sealed.f k (y189 ++ x5)).bind fun t195 => (if x3.length + t195.length < 140737488355328 then (if 0 ≤ x4 then (if x4 ≤ (x0.length : Int) then (impl_packed.l0 k (x0.drop (x4 : Int).toNat) (x3 ++ t195)) else (none)) else (none)) else (none))) else (none)))
end
def impl_packed.f (k : Nat) (l0 : List (S24)) : Option (List Int) := impl_packed.l0 k l0 (([] : List Int))
theorem impl_packed.mono_l : ∀ k, (∀ y0 y1, LeO (impl_packed.l0 k y0 y1) (impl_packed.l0 (k + 1) y0 y1)) ∧ (∀ y0 y1 y2 y3 y4 y5 y6, LeO (impl_packed.l1 k y0 y1 y2 y3 y4 y5 y6) (impl_packed.l1 (k + 1) y0 y1 y2 y3 y4 y5 y6))
  | 0 => ⟨fun _ _ r h => by simp [impl_packed.l0] at h, fun _ _ _ _ _ _ _ r h => by simp [impl_packed.l1] at h⟩
  | k + 1 => by
    obtain ⟨ih0, ih1⟩ := impl_packed.mono_l k
    refine ⟨?_, ?_⟩
    · intro y0 y1
      unfold impl_packed.l0
      repeat' first
      | (with_reducible exact ih0 _ _)
      | (with_reducible exact ih1 _ _ _ _ _ _ _)
      | (with_reducible exact impl_PackOp.mono _ _ _ _)
      | (with_reducible exact impl_sealed.mono _ _)
      | (with_reducible exact LeO.refl _)
      | (with_reducible exact LeO.none _)
      | (with_reducible refine LeO.ite ?_ ?_)
      | (with_reducible refine LeO.bind ?_ (fun _ => ?_))
      | exact ih0 _ _
      | exact ih1 _ _ _ _ _ _ _
      | exact impl_PackOp.mono _ _ _ _
      | exact impl_sealed.mono _ _
      | exact LeO.none _
      | refine LeO.ite ?_ ?_
      | refine LeO.bind ?_ (fun _ => ?_)
    · intro y0 y1 y2 y3 y4 y5 y6
      unfold impl_packed.l1
      repeat' first
      | (with_reducible exact ih0 _ _)
      | (with_reducible exact ih1 _ _ _ _ _ _ _)
      | (with_reducible exact impl_PackOp.mono _ _ _ _)
      | (with_reducible exact impl_sealed.mono _ _)
      | (with_reducible exact LeO.refl _)
      | (with_reducible exact LeO.none _)
      | (with_reducible refine LeO.ite ?_ ?_)
      | (with_reducible refine LeO.bind ?_ (fun _ => ?_))
      | exact ih0 _ _
      | exact ih1 _ _ _ _ _ _ _
      | exact impl_PackOp.mono _ _ _ _
      | exact impl_sealed.mono _ _
      | exact LeO.none _
      | refine LeO.ite ?_ ?_
      | refine LeO.bind ?_ (fun _ => ?_)
theorem impl_packed.mono : ∀ a0 k, LeO (impl_packed.f k a0) (impl_packed.f (k + 1) a0) := by
  intro a0 k
  obtain ⟨ih0, ih1⟩ := impl_packed.mono_l k
  unfold impl_packed.f
  repeat' first
      | (with_reducible exact ih0 _ _)
      | (with_reducible exact ih1 _ _ _ _ _ _ _)
      | (with_reducible exact impl_PackOp.mono _ _ _ _)
      | (with_reducible exact impl_sealed.mono _ _)
      | (with_reducible exact LeO.refl _)
      | (with_reducible exact LeO.none _)
      | (with_reducible refine LeO.ite ?_ ?_)
      | (with_reducible refine LeO.bind ?_ (fun _ => ?_))
      | exact ih0 _ _
      | exact ih1 _ _ _ _ _ _ _
      | exact impl_PackOp.mono _ _ _ _
      | exact impl_sealed.mono _ _
      | exact LeO.none _
      | refine LeO.ite ?_ ?_
      | refine LeO.bind ?_ (fun _ => ?_)
set_option maxHeartbeats 8000000 in
set_option maxRecDepth 100000 in
theorem impl_packed.calls (k : Nat) (P0_ : Nat → Prop) (A0 : Option Addr) (c0 : Nat) (l0 : List (S24)) (r : List Int) (w : World) (hs0 : Kd.V k24 24 w w.heap.size (fun k_ => P0_ k_) (.slice A0 l0.length c0) l0) (h : impl_packed.f k l0 = some r) :
    Calls Try.prog 47 #[.slice A0 l0.length c0] w fun e w' => ∃ v0_ : Value, e = .returned (v0_) ∧ Kd.R (Kd.int .u8) 5 w' w.heap.size (fun k_ => (w.heap.size ≤ k_)) v0_ r ∧ Below w.heap.size w w' := by
  have hu24 := Try.underlying24
  have HO0 := Aside0.mk (show Kd.V k24 24 w w.heap.size (fun k_ => (P0_ k_ ∨ w.heap.size ≤ k_)) (.slice A0 l0.length c0) l0 from Kd.V_mono hs0 (fun k_ hk => .inl hk))
  have HB := Aside0.mk (Below.refl w.heap.size w)
  have H : (impl_packed.l0 k l0 (([] : List Int))) = some r := h
  clear h
  obtain ⟨y170, hy170⟩ : ∃ y_ : List Int, y_ = (([] : List Int)) := ⟨_, rfl⟩
  replace H : (impl_packed.l0 k l0 y170) = some r := by first | (rw [hy170]; with_reducible exact H) | (have H2_ := (Option.bind_some _ _).symm.trans H; rw [hy170]; with_reducible exact H2_) | (have H2_ := (Option.bind_some _ _).symm.trans H; with_reducible exact H2_) | with_reducible exact H | (rw [hy170]; exact H) | exact H
  have Ny170 := Aside0.mk hy170
  clear hy170
  have H' := Aside0.mk H
  clear H
  go_enter Try.func47, Try.ntmps47
  go_wp2_with (first | ((with_reducible refine gate_dst (N := 8) rfl ?_); refine Kd.R_lit (Kd.int .u8) _ 5 ?hg (N := 8) ?hd (xs := ([] : List Int)) (inner := []) (ok := fun _ => True) (okp := fun _ => True) ?hr ?hp (fun _ hk => hk) trivial (Below.refl _ _) (Nat.le_refl _) (by simp) ?_; (case hd => rfl); (case hg => rfl); (case hr => first | (go_simp; done) | (go_simp; rfl)); (case hp => exact (Reps.none _ _)); intro v171 w2 ho3 hb hg_ hnew_; clear hg_ hnew_; (first | rw [← Ny170.out] at ho3 | (simp only [Int.reduceToNat] at ho3; rw [← Ny170.out] at ho3)); have n0_ := Aside0.mk (Kd.V_elder' (by (with_reducible repeat (first | apply Kd.V_alloc | apply Kd.V_drewN | apply Kd.V_drew)); exact HO0.out) (Kd.R_base ho3) hb); have n1_ := Aside0.mk (Kd.R_lower (Kd.R_newM (M := fun k_ => (w.heap.size ≤ k_)) ho3 (below_size (by repeat (first | (with_reducible first | exact HB.out | apply below_alloc | apply pw_below_drewN | apply below_drew1) | exact HB.out))) (fun k_ h_ => h_)) (below_size (by repeat (first | (with_reducible first | exact HB.out | apply below_alloc | apply pw_below_drewN | apply below_drew1) | exact HB.out)))); have n2_ := Aside0.mk (below_step (by repeat (first | (with_reducible first | exact HB.out | apply below_alloc | apply pw_below_drewN | apply below_drew1) | exact HB.out)) hb); clear HO0; clear HB; have HO0 := n0_; have HO172 := n1_; have HB := n2_; clear n0_ n1_ n2_; clear hb ho3))
  go_loopg [0, 3] k (fun kq v0 v3 w' => ∃ (x0_1 : List (S24)) (x3_1 : List Int), Aside0 (impl_packed.l0 kq x0_1 x3_1 = some r) ∧ Aside0 (kq ≤ k) ∧ Aside0 (Kd.V k24 24 w' w.heap.size (fun k_ => (P0_ k_ ∨ w.heap.size ≤ k_) ∧ some k_ ≠ (v3 : Value).ownBlock) v0 x0_1) ∧ Aside0 (Kd.R (Kd.int .u8) 5 w' w.heap.size (fun k_ => (w.heap.size ≤ k_)) v3 x3_1) ∧ Aside0 (Below w.heap.size w w'))
  case atStart => exact ⟨(l0), (y170), H', ⟨Nat.le_refl _⟩, ⟨by (with_reducible repeat (first | apply Kd.V_alloc | apply Kd.V_drewN | apply Kd.V_drew)); exact HO0.out⟩, ⟨by (with_reducible repeat (first | apply Kd.R_alloc | apply Kd.R_drewN | apply Kd.R_drew)); exact Kd.R_mono HO172.out (fun _ hk => hk.1)⟩, ⟨by repeat (first | (with_reducible first | exact HB.out | apply below_alloc | apply pw_below_drewN | apply below_drew1) | exact HB.out)⟩⟩
  case round =>
    clear H'
    try clear p2
    obtain ⟨x0_1, x3_1, HA, HK1, HO_0, HO_3, HB⟩ := hrel
    cases gk with
    | zero => exact absurd HA.out (by simp [impl_packed.l0])
    | succ k1 =>
      have H := HA.out
      clear HA
      simp only [impl_packed.l0] at H
      by_cases c4 : (x0_1.length : Int) > 0
      · rw [if_pos c4] at H
        have c4b0 : decide (0 < (x0_1.length : Int)) = true := decide_eq_true c4
        have c4b1 : decide (0 < x0_1.length) = true := decide_eq_true (by omega)
        clear c4
        obtain ⟨ji5, hji5⟩ : ∃ j_ : Int, (mn 16 (x0_1.length : Int)) = j_ := ⟨_, rfl⟩
        replace H : (if 0 ≤ (ji5) then (if (ji5) ≤ (x0_1.length : Int) then ((some (x0_1.take ((ji5) : Int).toNat : List (S24))).bind fun y176 => (impl_packed.l1 k1 x0_1 x3_1 ji5 (([] : List Int)) y176 (y176.length : Int) 0)) else (none)) else (none)) = some r := by first | (rw [hji5] at H; exact H) | (simp only [hji5] at H ⊢; exact H)
        have hji5_ : (if (x0_1.length : Int) < 16 then (x0_1.length : Int) else 16) = ji5 := hji5
        obtain ⟨y173, hy173⟩ : ∃ y_ : List Int, y_ = (([] : List Int)) := ⟨_, rfl⟩
        replace H : (if 0 ≤ (ji5) then (if (ji5) ≤ (x0_1.length : Int) then ((some (x0_1.take ((ji5) : Int).toNat : List (S24))).bind fun y176 => (impl_packed.l1 k1 x0_1 x3_1 ji5 y173 y176 (y176.length : Int) 0)) else (none)) else (none)) = some r := by first | (rw [hy173]; with_reducible exact H) | (have H2_ := (Option.bind_some _ _).symm.trans H; rw [hy173]; with_reducible exact H2_) | (have H2_ := (Option.bind_some _ _).symm.trans H; with_reducible exact H2_) | with_reducible exact H | (rw [hy173]; exact H) | exact H
        have Ny173 := Aside0.mk hy173
        clear hy173
        by_cases c6 : 0 ≤ (ji5)
        · rw [if_pos c6] at H
          have c6b0 := eq_true c6
          have c6b1 : decide (0 ≤ (ji5)) = true := decide_eq_true c6
          clear c6
          by_cases c7 : (ji5) ≤ (x0_1.length : Int)
          · rw [if_pos c7] at H
            have c7b0 := eq_true c7
            have c7b1 : decide ((ji5) ≤ (x0_1.length : Int)) = true := decide_eq_true c7
            clear c7
            obtain ⟨y176, hy176⟩ : ∃ y_ : List (S24), y_ = (x0_1.take ((ji5) : Int).toNat) := ⟨_, rfl⟩
            replace H : (impl_packed.l1 k1 x0_1 x3_1 ji5 y173 y176 (y176.length : Int) 0) = some r := by first | (rw [hy176]; with_reducible exact H) | (have H2_ := (Option.bind_some _ _).symm.trans H; rw [hy176]; with_reducible exact H2_) | (have H2_ := (Option.bind_some _ _).symm.trans H; with_reducible exact H2_) | with_reducible exact H | (rw [hy176]; exact H) | exact H
            have Ny176 := Aside0.mk hy176
            clear hy176
            have H' := Aside0.mk H
            clear H
            obtain ⟨Ao8, co8, eo8⟩ := Kd.V_slice HO_0.out
            subst eo8
            go_wp2_with (first | ((with_reducible refine gate_dst (N := 15) rfl ?_); refine Kd.R_lit (Kd.int .u8) _ 5 ?hg (N := 15) ?hd (xs := ([] : List Int)) (inner := []) (ok := fun _ => True) (okp := fun _ => True) ?hr ?hp (fun _ hk => hk) trivial (Below.refl _ _) (Nat.le_refl _) (by simp) ?_; (case hd => rfl); (case hg => rfl); (case hr => first | (go_simp; done) | (go_simp; rfl)); (case hp => exact (Reps.none _ _)); intro v174 w9 ho10 hb hg_ hnew_; clear hg_ hnew_; (first | rw [← Ny173.out] at ho10 | (simp only [Int.reduceToNat] at ho10; rw [← Ny173.out] at ho10)); have n0_ := Aside0.mk (Kd.V_elder' (by (with_reducible repeat (first | apply Kd.V_alloc | apply Kd.V_drewN | apply Kd.V_drew)); exact HO_0.out) (Kd.R_base ho10) hb); have n1_ := Aside0.mk (Kd.R_elder' (by (with_reducible repeat (first | apply Kd.R_alloc | apply Kd.R_drewN | apply Kd.R_drew)); exact HO_3.out) (Kd.R_base ho10) hb); have n2_ := Aside0.mk (Kd.R_lower (Kd.R_new' (Kd.R_newM (M := fun k_ => (w.heap.size ≤ k_)) ho10 (below_size (by repeat (first | (with_reducible first | exact HB.out | apply below_alloc | apply pw_below_drewN | apply below_drew1) | exact HB.out))) (fun k_ h_ => h_)) (Kd.R_lt (by (with_reducible repeat (first | apply Kd.R_alloc | apply Kd.R_drewN | apply Kd.R_drew)); exact HO_3.out))) (below_size (by repeat (first | (with_reducible first | exact HB.out | apply below_alloc | apply pw_below_drewN | apply below_drew1) | exact HB.out)))); have n3_ := Aside0.mk (below_step (by repeat (first | (with_reducible first | exact HB.out | apply below_alloc | apply pw_below_drewN | apply below_drew1) | exact HB.out)) hb); clear HO_0; clear HO_3; clear HB; have HO_0 := n0_; have HO_3 := n1_; have HO175 := n2_; have HB := n3_; clear n0_ n1_ n2_ n3_; clear hb ho10; have q11 : ((ji5) : Int) ≤ ((x0_1.length : Int) : Int) := of_decide_eq_true (by first | (with_reducible assumption) | assumption); obtain ⟨i011, hi011, _, hsz11, _⟩ := info_parts info24; have hroom11 : x0_1.length ≤ co8 := (Kd.V_reads' HO_0.out).2.1; have hC11 : Kd.F k24 _ _ Ao8 x0_1.length x0_1 := (Kd.V_at (base := w.heap.size) HO_0.out).2.2; have hcut11 := cut_to (P := Try.prog) 35 24 .i64 Try.underlying35 hi011 Ao8 x0_1.length co8 (ji5) (of_decide_eq_true (by first | (with_reducible assumption) | assumption)) q11 hroom11; have hr11 := Kd.F_take (m := ((ji5) : Int).toNat) hC11 (by omega); have hy11 : y176.length = ((ji5) : Int).toNat := (by rw [Ny176.out, List.length_take]; omega); rw [← Ny176.out] at hr11; rw [← hy11] at hcut11; have HO180 := Aside0.mk (show Kd.V k24 24 _ w.heap.size _ (.slice Ao8 y176.length co8) y176 from Kd.V_mk (by omega) hr11); have HC180 := Aside0.mk (show y176.length ≤ co8 from by omega); clear hr11 hC11 hroom11 hi011 hsz11; have KY11 := Aside0.mk hy11; clear hy11; replace q11 := eq_true q11))
            go_loopg [5, 20] k1 (fun kq v5 v20 w' => ∃ (x5_2 : List Int) (x20_2 : Int), v20 = .int .i64 x20_2 ∧ Aside0 (impl_packed.l1 kq x0_1 x3_1 ji5 x5_2 y176 (y176.length : Int) x20_2 = some r) ∧ Aside0 (kq ≤ k1) ∧ Aside0 (Kd.V k24 24 w' w.heap.size (fun k_ => (P0_ k_ ∨ w.heap.size ≤ k_) ∧ some k_ ≠ (u3 : Value).ownBlock ∧ some k_ ≠ (v5 : Value).ownBlock) (.slice Ao8 x0_1.length co8) x0_1) ∧ Aside0 (Kd.R (Kd.int .u8) 5 w' w.heap.size (fun k_ => (w.heap.size ≤ k_) ∧ some k_ ≠ (v5 : Value).ownBlock) u3 x3_1) ∧ Aside0 (Kd.R (Kd.int .u8) 5 w' w.heap.size (fun k_ => (w.heap.size ≤ k_) ∧ some k_ ≠ (u3 : Value).ownBlock) v5 x5_2) ∧ Aside0 (Kd.V k24 24 w' w.heap.size (fun k_ => (P0_ k_ ∨ w.heap.size ≤ k_) ∧ some k_ ≠ (u3 : Value).ownBlock ∧ some k_ ≠ (v5 : Value).ownBlock) (.slice Ao8 y176.length co8) y176) ∧ Aside0 (Below w.heap.size w w'))
            case atStart => exact ⟨(y173), (0), (by first | rfl | (simp; done) | (simp [*]; done)), H', ⟨Nat.le_refl _⟩, ⟨by (with_reducible repeat (first | apply Kd.V_alloc | apply Kd.V_drewN | apply Kd.V_drew)); exact Kd.V_mono HO_0.out (fun _ hk => ⟨hk.1.1, ⟨hk.1.2, hk.2⟩⟩)⟩, ⟨by (with_reducible repeat (first | apply Kd.R_alloc | apply Kd.R_drewN | apply Kd.R_drew)); exact HO_3.out⟩, ⟨by (with_reducible repeat (first | apply Kd.R_alloc | apply Kd.R_drewN | apply Kd.R_drew)); exact Kd.R_mono HO175.out (fun _ hk => ⟨hk.1.1, hk.2⟩)⟩, ⟨by (with_reducible repeat (first | apply Kd.V_alloc | apply Kd.V_drewN | apply Kd.V_drew)); exact Kd.V_mono HO180.out (fun _ hk => ⟨hk.1.1, ⟨hk.1.2, hk.2⟩⟩)⟩, ⟨by repeat (first | (with_reducible first | exact HB.out | apply below_alloc | apply pw_below_drewN | apply below_drew1) | exact HB.out)⟩⟩
            case round =>
              clear H'
              try clear q1
              try clear p2
              try clear c4
              try clear c4b0
              try clear c4b1
              try clear c6
              try clear c6b0
              try clear c6b1
              try clear c7
              try clear c7b0
              try clear c7b1
              try clear q11
              try clear p2
              try clear q11
              obtain ⟨x5_2, x20_2, rfl, HA, HK2, HO_0, HO_3, HO_5, HO_18, HB⟩ := hrel
              cases gk with
              | zero => exact absurd HA.out (by simp [impl_packed.l1])
              | succ k2 =>
                have H := HA.out
                clear HA
                simp only [impl_packed.l1] at H
                by_cases c12 : x20_2 < (y176.length : Int)
                · rw [if_pos c12] at H
                  have c12b0 : decide (x20_2 < (y176.length : Int)) = true := decide_eq_true c12
                  clear c12
                  by_cases c13 : 0 ≤ x20_2
                  · rw [if_pos c13] at H
                    have c13b0 : decide (0 ≤ x20_2) = true := decide_eq_true c13
                    clear c13
                    by_cases c14 : x20_2 < (y176.length : Int)
                    · rw [if_pos c14] at H
                      have c14b0 : decide (x20_2 < (y176.length : Int)) = true := decide_eq_true c14
                      clear c14
                      replace H := Option.bind_eq_some_iff.mp H
                      obtain ⟨t183, A150, H⟩ := H
                      replace H : (if x5_2.length + t183.length < 140737488355328 then (impl_packed.l1 k2 x0_1 x3_1 ji5 (x5_2 ++ t183) y176 (y176.length : Int) (wrap64 (x20_2 + 1))) else (none)) = some r := H
                      have A15 := Aside0.mk A150
                      clear A150
                      by_cases c16 : x5_2.length + t183.length < 140737488355328
                      · rw [if_pos c16] at H
                        have LMc16 := Aside0.mk c16
                        clear c16
                        obtain ⟨y186, hy186⟩ : ∃ y_ : List Int, y_ = (x5_2 ++ t183) := ⟨_, rfl⟩
                        replace H : (impl_packed.l1 k2 x0_1 x3_1 ji5 y186 y176 (y176.length : Int) (wrap64 (x20_2 + 1))) = some r := by first | (rw [hy186]; with_reducible exact H) | (have H2_ := (Option.bind_some _ _).symm.trans H; rw [hy186]; with_reducible exact H2_) | (have H2_ := (Option.bind_some _ _).symm.trans H; with_reducible exact H2_) | with_reducible exact H | (rw [hy186]; exact H) | exact H
                        have Ny186 := Aside0.mk hy186
                        clear hy186
                        have H' := Aside0.mk H
                        clear H
                        have p181 : 0 ≤ (x20_2 : Int) := of_decide_eq_true (by first | (with_reducible assumption) | assumption)
                        have q181 : x20_2 < (y176.length : Int) := of_decide_eq_true (by first | (with_reducible assumption) | assumption)
                        obtain ⟨ad181, e181, hx181_0, hx181_1, hx181_2⟩ := at_T24 (Kd.V_reads' HO_18.out).2.2 x20_2 p181 q181
                        cases e181
                        replace p181 := eq_true p181
                        replace q181 := eq_true q181
                        go_wp2_with (first | ((with_reducible refine gate_dst (N := 7) rfl ?_); refine box_event ?hg (N := 7) ?hd (cs := #[.int .i64 0, .int .i64 0, .int .i64 0]) (t := 24) ?hr ?_; (case hd => rfl); (case hg => rfl); (case hr => first | (go_simp; done) | (go_simp; rfl)); intro gb182 hg w17 hbox hb; have n0_ := Aside0.mk (Kd.V_below (Kd.V_elderB (by (with_reducible repeat (first | apply Kd.V_alloc | apply Kd.V_drewN | apply Kd.V_drew)); exact HO_0.out) gb182 (Nat.le_of_eq hg.symm)) hb); have n1_ := Aside0.mk (Kd.R_below (by (with_reducible repeat (first | apply Kd.R_alloc | apply Kd.R_drewN | apply Kd.R_drew)); exact HO_3.out) hb); have n2_ := Aside0.mk (Kd.R_below (by (with_reducible repeat (first | apply Kd.R_alloc | apply Kd.R_drewN | apply Kd.R_drew)); exact HO_5.out) hb); have n3_ := Aside0.mk (Kd.V_below (Kd.V_elderB (by (with_reducible repeat (first | apply Kd.V_alloc | apply Kd.V_drewN | apply Kd.V_drew)); exact HO_18.out) gb182 (Nat.le_of_eq hg.symm)) hb); have n4_ := Aside0.mk (below_step (by repeat (first | (with_reducible first | exact HB.out | apply below_alloc | apply pw_below_drewN | apply below_drew1) | exact HB.out)) hb); have n5_ := Aside0.mk (hbox); have n6_ := Aside0.mk ((by rw [hg]; exact (below_size (by repeat (first | (with_reducible first | exact HB.out | apply below_alloc | apply pw_below_drewN | apply below_drew1) | exact HB.out))) : w.heap.size ≤ gb182)); have n7_ := Aside0.mk ((by rw [hg]; exact (below_size (by repeat (first | (with_reducible first | exact HB.out | apply below_alloc | apply pw_below_drewN | apply below_drew1) | exact HB.out))) : w.heap.size ≤ gb182)); clear HO_0; clear HO_3; clear HO_5; clear HO_18; clear HB; have HO_0 := n0_; have HO_3 := n1_; have HO_5 := n2_; have HO_18 := n3_; have HB := n4_; have BK182 := n5_; have GW182 := n6_; have GE182 := n7_; clear n0_ n1_ n2_ n3_ n4_ n5_ n6_ n7_; clear hb hbox hg; have hcz18_0 : w17.cell? ⟨gb182, 0, none⟩ = some (.int .i64 0) := (blk_cell BK182.out 0).trans rfl; have hcz18_1 : w17.cell? ⟨gb182, 1, none⟩ = some (.int .i64 0) := (blk_cell BK182.out 1).trans rfl; have hcz18_2 : w17.cell? ⟨gb182, 2, none⟩ = some (.int .i64 0) := (blk_cell BK182.out 2).trans rfl; have hfz18_0 := blk_frozen BK182.out 0; have hfz18_1 := blk_frozen BK182.out 1; have hfz18_2 := blk_frozen BK182.out 2) | ((with_reducible refine gate_callee (f := 60) rfl ?_); refine goesL_ (some 26) rfl rfl Try.func60 (by kernel_rfl) rfl #[.agg #[.int .i64 ((rd_T24 y176 x20_2).f0), .int .i64 ((rd_T24 y176 x20_2).f1), .int .i64 ((rd_T24 y176 x20_2).f2)]] rfl (by (try simp only [List.map_toArray, List.map_cons, List.map_nil]); first | done | rfl | (simp only [List.length_drop, List.length_take]; rfl)) ?_; (with_reducible refine (impl_PackOp.calls k2 ((rd_T24 y176 x20_2).f0) ((rd_T24 y176 x20_2).f1) ((rd_T24 y176 x20_2).f2) t183 _ A15.out).mono ?_); rintro e w19 ⟨v184, rfl, ho0, hb⟩; refine ⟨_, rfl, ?_⟩; have n0_ := Aside0.mk (Kd.V_elder' (by (with_reducible repeat (first | apply Kd.V_alloc | apply Kd.V_drewN | apply Kd.V_drew)); exact (Kd.V_mono (Kd.V_far (p := ⟨gb182, 2, none⟩) (Kd.V_far (p := ⟨gb182, 1, none⟩) (Kd.V_far (p := ⟨gb182, 0, none⟩) (Kd.V_mono HO_0.out (fun k_ hk => (⟨hk, hk.2⟩ : _ ∧ k_ ≠ gb182))) (fun _ hk => hk.2) (.int .i64 ((rd_T24 y176 x20_2).f0))) (fun _ hk => hk.2) (.int .i64 ((rd_T24 y176 x20_2).f1))) (fun _ hk => hk.2) (.int .i64 ((rd_T24 y176 x20_2).f2))) (fun _ h_ => h_.1))) (Kd.R_base ho0) hb); have n1_ := Aside0.mk (Kd.R_elder' (by (with_reducible repeat (first | apply Kd.R_alloc | apply Kd.R_drewN | apply Kd.R_drew)); exact (Kd.R_mono (Kd.R_far (p := ⟨gb182, 2, none⟩) (Kd.R_far (p := ⟨gb182, 1, none⟩) (Kd.R_far (p := ⟨gb182, 0, none⟩) (Kd.R_types HO_3.out BK182.out (by decide)) (fun _ hk => hk.2) (.int .i64 ((rd_T24 y176 x20_2).f0))) (fun _ hk => hk.2) (.int .i64 ((rd_T24 y176 x20_2).f1))) (fun _ hk => hk.2) (.int .i64 ((rd_T24 y176 x20_2).f2))) (fun _ h_ => h_.1))) (Kd.R_base ho0) hb); have n2_ := Aside0.mk (Kd.R_elder' (by (with_reducible repeat (first | apply Kd.R_alloc | apply Kd.R_drewN | apply Kd.R_drew)); exact (Kd.R_mono (Kd.R_far (p := ⟨gb182, 2, none⟩) (Kd.R_far (p := ⟨gb182, 1, none⟩) (Kd.R_far (p := ⟨gb182, 0, none⟩) (Kd.R_types HO_5.out BK182.out (by decide)) (fun _ hk => hk.2) (.int .i64 ((rd_T24 y176 x20_2).f0))) (fun _ hk => hk.2) (.int .i64 ((rd_T24 y176 x20_2).f1))) (fun _ hk => hk.2) (.int .i64 ((rd_T24 y176 x20_2).f2))) (fun _ h_ => h_.1))) (Kd.R_base ho0) hb); have n3_ := Aside0.mk (Kd.V_elder' (by (with_reducible repeat (first | apply Kd.V_alloc | apply Kd.V_drewN | apply Kd.V_drew)); exact (Kd.V_mono (Kd.V_far (p := ⟨gb182, 2, none⟩) (Kd.V_far (p := ⟨gb182, 1, none⟩) (Kd.V_far (p := ⟨gb182, 0, none⟩) (Kd.V_mono HO_18.out (fun k_ hk => (⟨hk, hk.2⟩ : _ ∧ k_ ≠ gb182))) (fun _ hk => hk.2) (.int .i64 ((rd_T24 y176 x20_2).f0))) (fun _ hk => hk.2) (.int .i64 ((rd_T24 y176 x20_2).f1))) (fun _ hk => hk.2) (.int .i64 ((rd_T24 y176 x20_2).f2))) (fun _ h_ => h_.1))) (Kd.R_base ho0) hb); have n4_ := Aside0.mk (Kd.R_lower (Kd.R_new' (Kd.R_new' (Kd.R_newM (M := fun k_ => (w.heap.size ≤ k_)) ho0 (below_size (by repeat (first | (with_reducible first | exact HB.out | apply below_alloc | apply pw_below_drewN | apply below_drew1 | refine below_set ?_ GE182.out) | exact HB.out))) (fun k_ h_ => h_)) (Kd.R_lt (by (with_reducible repeat (first | apply Kd.R_alloc | apply Kd.R_drewN | apply Kd.R_drew)); exact (Kd.R_mono (Kd.R_far (p := ⟨gb182, 2, none⟩) (Kd.R_far (p := ⟨gb182, 1, none⟩) (Kd.R_far (p := ⟨gb182, 0, none⟩) (Kd.R_types HO_3.out BK182.out (by decide)) (fun _ hk => hk.2) (.int .i64 ((rd_T24 y176 x20_2).f0))) (fun _ hk => hk.2) (.int .i64 ((rd_T24 y176 x20_2).f1))) (fun _ hk => hk.2) (.int .i64 ((rd_T24 y176 x20_2).f2))) (fun _ h_ => h_.1))))) (Kd.R_lt (by (with_reducible repeat (first | apply Kd.R_alloc | apply Kd.R_drewN | apply Kd.R_drew)); exact (Kd.R_mono (Kd.R_far (p := ⟨gb182, 2, none⟩) (Kd.R_far (p := ⟨gb182, 1, none⟩) (Kd.R_far (p := ⟨gb182, 0, none⟩) (Kd.R_types HO_5.out BK182.out (by decide)) (fun _ hk => hk.2) (.int .i64 ((rd_T24 y176 x20_2).f0))) (fun _ hk => hk.2) (.int .i64 ((rd_T24 y176 x20_2).f1))) (fun _ hk => hk.2) (.int .i64 ((rd_T24 y176 x20_2).f2))) (fun _ h_ => h_.1))))) (below_size (by repeat (first | (with_reducible first | exact HB.out | apply below_alloc | apply pw_below_drewN | apply below_drew1 | refine below_set ?_ GE182.out) | exact HB.out)))); have n5_ := Aside0.mk (blk_below (g := gb182) (o := .cells #[.int .i64 ((rd_T24 y176 x20_2).f0), .int .i64 ((rd_T24 y176 x20_2).f1), .int .i64 ((rd_T24 y176 x20_2).f2)] 24 (0, 0)) (by (with_reducible repeat (first | refine blk_drewN ?_ _ | refine blk_drew ?_ | refine blk_alloc ?_ _)); refine blk_put (cs := #[.int .i64 ((rd_T24 y176 x20_2).f0), .int .i64 ((rd_T24 y176 x20_2).f1), .int .i64 0]) ?_ 2 _ rfl; (with_reducible repeat (first | refine blk_drewN ?_ _ | refine blk_drew ?_ | refine blk_alloc ?_ _)); refine blk_put (cs := #[.int .i64 ((rd_T24 y176 x20_2).f0), .int .i64 0, .int .i64 0]) ?_ 1 _ rfl; (with_reducible repeat (first | refine blk_drewN ?_ _ | refine blk_drew ?_ | refine blk_alloc ?_ _)); refine blk_put (cs := #[.int .i64 0, .int .i64 0, .int .i64 0]) ?_ 0 _ rfl; (with_reducible repeat (first | refine blk_drewN ?_ _ | refine blk_drew ?_ | refine blk_alloc ?_ _)); exact BK182.out) hb); have n6_ := Aside0.mk (below_step (by repeat (first | (with_reducible first | exact HB.out | apply below_alloc | apply pw_below_drewN | apply below_drew1 | refine below_set ?_ GE182.out) | exact HB.out)) hb); clear HO_0; clear HO_3; clear HO_5; clear HO_18; clear BK182; clear HB; have HO_0 := n0_; have HO_3 := n1_; have HO_5 := n2_; have HO_18 := n3_; have HO185 := n4_; have BK182 := n5_; have HB := n6_; clear n0_ n1_ n2_ n3_ n4_ n5_ n6_; (try clear hb); (try clear hb2); (try clear hk); (try clear hi); (try clear ho0); obtain ⟨Ao21, co21, eo21⟩ := Kd.R_slice HO185.out; subst eo21) | ((with_reducible refine gate_builtin (b := .append) (xs := #[.tmp 24, .tmp 26]) rfl ?_); at_builtin; refine Kd.R_append_rows (Kd.int .u8) (w0 := w) w.heap.size rfl (.tmp 24) (.tmp 26) 22 5 (.int .u8 0) 1 rfl Try.underlying22 info5 rfl (by decide) (by omega) u5 x5_2 t183 _ _ _ (fun k_ => (w.heap.size ≤ k_) ∧ some k_ ≠ (u3 : Value).ownBlock ∧ some k_ ≠ (.slice Ao21 t183.length co21 : Value).ownBlock) (fun _ => False) rfl rfl ?aO ?aR (fun _ _ h => h) (fun _ h => h.elim) ?aF ?aB ?aS ?aL ?_; (case aR => repeat (first | exact (Kd.R_reads' HO185.out).2.2 | (with_reducible refine Kd.C_alloc ?_ _) | (with_reducible refine Kd.C_drewN ?_ _) | (with_reducible refine Kd.C_drew ?_))); (case aB => exact (by repeat (first | (with_reducible first | exact HB.out | apply below_alloc | apply pw_below_drewN | apply below_drew1 | refine below_set ?_ GE182.out) | exact HB.out))); (case aF => exact (fun k_ hk => ⟨(Nat.le_trans (below_size (by repeat (first | (with_reducible first | exact HB.out | apply below_alloc | apply pw_below_drewN | apply below_drew1 | refine below_set ?_ GE182.out) | exact HB.out))) hk), Kd.fresh' (Kd.R_lt (by (with_reducible repeat (first | apply Kd.R_alloc | apply Kd.R_drewN | apply Kd.R_drew)); exact HO_3.out)) k_ hk, Kd.fresh' (Kd.R_lt (by (with_reducible repeat (first | apply Kd.R_alloc | apply Kd.R_drewN | apply Kd.R_drew)); exact HO185.out)) k_ hk⟩)); (case aO => exact (by (with_reducible repeat (first | apply Kd.R_alloc | apply Kd.R_drewN | apply Kd.R_drew)); exact Kd.R_mono HO_5.out (fun _ hk => ⟨hk.1.1, ⟨hk.1.2, hk.2⟩⟩))); (case aS => exact (below_size (by repeat (first | (with_reducible first | exact HB.out | apply below_alloc | apply pw_below_drewN | apply below_drew1 | refine below_set ?_ GE182.out) | exact HB.out)))); (case aL => have := LMc16.out; omega); intro v187 w20 ho hb hg hat; rw [← Ny186.out] at ho; have n0_ := Aside0.mk (Kd.V_afterv (ok := (fun k_ => (P0_ k_ ∨ w.heap.size ≤ k_) ∧ some k_ ≠ (u3 : Value).ownBlock ∧ some k_ ≠ (.slice Ao21 t183.length co21 : Value).ownBlock ∧ k_ ≠ gb182)) (by (with_reducible repeat (first | apply Kd.V_alloc | apply Kd.V_drewN | apply Kd.V_drew)); exact Kd.V_mono HO_0.out (fun _ hk => ⟨⟨hk.1.1.1, ⟨hk.1.1.2.1, ⟨hk.2, hk.1.2⟩⟩⟩, hk.1.1.2.2⟩)) hg hat); have n1_ := Aside0.mk (Kd.R_after (ok := (fun k_ => (w.heap.size ≤ k_) ∧ some k_ ≠ (.slice Ao21 t183.length co21 : Value).ownBlock)) (by (with_reducible repeat (first | apply Kd.R_alloc | apply Kd.R_drewN | apply Kd.R_drew)); exact Kd.R_mono HO_3.out (fun _ hk => ⟨⟨hk.1.1, hk.2⟩, hk.1.2⟩)) hg hat); have n2_ := Aside0.mk (Kd.V_afterv (ok := (fun k_ => (P0_ k_ ∨ w.heap.size ≤ k_) ∧ some k_ ≠ (u3 : Value).ownBlock ∧ some k_ ≠ (.slice Ao21 t183.length co21 : Value).ownBlock ∧ k_ ≠ gb182)) (by (with_reducible repeat (first | apply Kd.V_alloc | apply Kd.V_drewN | apply Kd.V_drew)); exact Kd.V_mono HO_18.out (fun _ hk => ⟨⟨hk.1.1.1, ⟨hk.1.1.2.1, ⟨hk.2, hk.1.2⟩⟩⟩, hk.1.1.2.2⟩)) hg hat); have n3_ := Aside0.mk (blk_grown (g := gb182) (o := .cells #[.int .i64 ((rd_T24 y176 x20_2).f0), .int .i64 ((rd_T24 y176 x20_2).f1), .int .i64 ((rd_T24 y176 x20_2).f2)] 24 (0, 0)) (by (with_reducible repeat (first | refine blk_drewN ?_ _ | refine blk_drew ?_ | refine blk_alloc ?_ _)); exact BK182.out) hg (Kd.R_ne HO_5.out BK182.out (by decide))); have n4_ := Aside0.mk (Kd.R_after (ok := (fun k_ => (w.heap.size ≤ k_) ∧ some k_ ≠ (u3 : Value).ownBlock)) (by (with_reducible repeat (first | apply Kd.R_alloc | apply Kd.R_drewN | apply Kd.R_drew)); exact Kd.R_mono HO185.out (fun _ hk => ⟨⟨hk.1.1.1, hk.1.2⟩, hk.2⟩)) hg hat); have n5_ := Aside0.mk (hb); have n6_ := Aside0.mk (ho); clear HO_0; clear HO_3; clear HO_18; clear BK182; clear HO185; clear HB; clear HO_5; have HO_0 := n0_; have HO_3 := n1_; have HO_18 := n2_; have BK182 := n3_; have HO185 := n4_; have HB := n5_; have HO188 := n6_; clear n0_ n1_ n2_ n3_ n4_ n5_ n6_; clear ho hb hg hat))
                        try subst hji5
                        go_roundg k2
                        case measure => have := HK1.out; have := HK2.out; omega
                        case rel => exact ⟨(y186), (wrap64 (x20_2 + 1)), (by first | rfl | (simp; done) | (simp [*]; done)), H', ⟨by have := HK1.out; have := HK2.out; omega⟩, ⟨by (with_reducible repeat (first | apply Kd.V_alloc | apply Kd.V_drewN | apply Kd.V_drew)); exact Kd.V_mono HO_0.out (fun _ hk => ⟨hk.1.1, ⟨hk.1.2.1, hk.2⟩⟩)⟩, ⟨by (with_reducible repeat (first | apply Kd.R_alloc | apply Kd.R_drewN | apply Kd.R_drew)); exact Kd.R_mono HO_3.out (fun _ hk => ⟨hk.1.1, hk.2⟩)⟩, ⟨by (with_reducible repeat (first | apply Kd.R_alloc | apply Kd.R_drewN | apply Kd.R_drew)); exact Kd.R_mono HO188.out (fun _ hk => ⟨hk.1, hk.2.1⟩)⟩, ⟨by (with_reducible repeat (first | apply Kd.V_alloc | apply Kd.V_drewN | apply Kd.V_drew)); exact Kd.V_mono HO_18.out (fun _ hk => ⟨hk.1.1, ⟨hk.1.2.1, hk.2⟩⟩)⟩, ⟨by repeat (first | (with_reducible first | exact HB.out | apply below_alloc | apply pw_below_drewN | apply below_drew1 | refine below_set ?_ GE182.out) | exact HB.out)⟩⟩
                      · rw [if_neg c16] at H
                        exact absurd H (by simp)
                    · rw [if_neg c14] at H
                      exact absurd H (by simp)
                  · rw [if_neg c13] at H
                    exact absurd H (by simp)
                · rw [if_neg c12] at H
                  have c12b0 : decide (x20_2 < (y176.length : Int)) = false := decide_eq_false c12
                  clear c12
                  obtain ⟨y189, hy189⟩ : ∃ y_ : List Int, y_ = (([(ji5) % 256, ((x5_2.length : Int)) % 256] : List Int)) := ⟨_, rfl⟩
                  replace H : (if y189.length + x5_2.length < 140737488355328 then ((impl_sealed.f k2 (y189 ++ x5_2)).bind fun t195 => (if x3_1.length + t195.length < 140737488355328 then (if 0 ≤ ji5 then (if ji5 ≤ (x0_1.length : Int) then (impl_packed.l0 k2 (x0_1.drop (ji5 : Int).toNat) (x3_1 ++ t195)) else (none)) else (none)) else (none))) else (none)) = some r := by first | (rw [hy189]; with_reducible exact H) | (have H2_ := (Option.bind_some _ _).symm.trans H; rw [hy189]; with_reducible exact H2_) | (have H2_ := (Option.bind_some _ _).symm.trans H; with_reducible exact H2_) | with_reducible exact H | (rw [hy189]; exact H) | exact H
                  rw [show (ji5) % 256 = ji5 from by have := hji5_; split at this <;> omega] at hy189
                  have Ny189 := Aside0.mk hy189
                  clear hy189
                  by_cases c22 : y189.length + x5_2.length < 140737488355328
                  · rw [if_pos c22] at H
                    have LMc22 := Aside0.mk c22
                    clear c22
                    obtain ⟨y192, hy192⟩ : ∃ y_ : List Int, y_ = (y189 ++ x5_2) := ⟨_, rfl⟩
                    replace H : ((impl_sealed.f k2 y192).bind fun t195 => (if x3_1.length + t195.length < 140737488355328 then (if 0 ≤ ji5 then (if ji5 ≤ (x0_1.length : Int) then (impl_packed.l0 k2 (x0_1.drop (ji5 : Int).toNat) (x3_1 ++ t195)) else (none)) else (none)) else (none))) = some r := by first | (rw [hy192]; with_reducible exact H) | (have H2_ := (Option.bind_some _ _).symm.trans H; rw [hy192]; with_reducible exact H2_) | (have H2_ := (Option.bind_some _ _).symm.trans H; with_reducible exact H2_) | with_reducible exact H | (rw [hy192]; exact H) | exact H
                    have Ny192 := Aside0.mk hy192
                    clear hy192
                    replace H := Option.bind_eq_some_iff.mp H
                    obtain ⟨t195, A230, H⟩ := H
                    replace H : (if x3_1.length + t195.length < 140737488355328 then (if 0 ≤ ji5 then (if ji5 ≤ (x0_1.length : Int) then (impl_packed.l0 k2 (x0_1.drop (ji5 : Int).toNat) (x3_1 ++ t195)) else (none)) else (none)) else (none)) = some r := H
                    have A23 := Aside0.mk A230
                    clear A230
                    by_cases c24 : x3_1.length + t195.length < 140737488355328
                    · rw [if_pos c24] at H
                      have LMc24 := Aside0.mk c24
                      clear c24
                      obtain ⟨y198, hy198⟩ : ∃ y_ : List Int, y_ = (x3_1 ++ t195) := ⟨_, rfl⟩
                      replace H : (if 0 ≤ ji5 then (if ji5 ≤ (x0_1.length : Int) then (impl_packed.l0 k2 (x0_1.drop (ji5 : Int).toNat) y198) else (none)) else (none)) = some r := by first | (rw [hy198]; with_reducible exact H) | (have H2_ := (Option.bind_some _ _).symm.trans H; rw [hy198]; with_reducible exact H2_) | (have H2_ := (Option.bind_some _ _).symm.trans H; with_reducible exact H2_) | with_reducible exact H | (rw [hy198]; exact H) | exact H
                      have Ny198 := Aside0.mk hy198
                      clear hy198
                      by_cases c25 : 0 ≤ ji5
                      · rw [if_pos c25] at H
                        have c25b0 := eq_true c25
                        have c25b1 : decide (0 ≤ ji5) = true := decide_eq_true c25
                        clear c25
                        by_cases c26 : ji5 ≤ (x0_1.length : Int)
                        · rw [if_pos c26] at H
                          have c26b0 := eq_true c26
                          have c26b1 : decide (ji5 ≤ (x0_1.length : Int)) = true := decide_eq_true c26
                          clear c26
                          obtain ⟨y201, hy201⟩ : ∃ y_ : List (S24), y_ = (x0_1.drop (ji5 : Int).toNat) := ⟨_, rfl⟩
                          replace H : (impl_packed.l0 k2 y201 y198) = some r := by first | (rw [hy201]; with_reducible exact H) | (have H2_ := (Option.bind_some _ _).symm.trans H; rw [hy201]; with_reducible exact H2_) | (have H2_ := (Option.bind_some _ _).symm.trans H; with_reducible exact H2_) | with_reducible exact H | (rw [hy201]; exact H) | exact H
                          have Ny201 := Aside0.mk hy201
                          clear hy201
                          have H' := Aside0.mk H
                          clear H
                          obtain ⟨Ao27, co27, eo27⟩ := Kd.R_slice HO_5.out
                          subst eo27
                          go_wp2_with (first | ((with_reducible refine gate_dst (N := 35) rfl ?_); refine Kd.R_lit (Kd.int .u8) _ 5 ?hg (N := 35) ?hd (xs := ([ji5, ((x5_2.length : Int)) % 256] : List Int)) (inner := [.int .u8 (ji5), .int .u8 (((x5_2.length : Int)) % 256)]) (ok := fun _ => True) (okp := fun _ => True) ?hr ?hp (fun _ hk => hk) trivial (Below.refl _ _) (Nat.le_refl _) (by simp) ?_; (case hd => rfl); (case hg => rfl); (case hr => first | (go_simp; done) | (go_simp; rfl)); (case hp => exact (Reps.one (show Kd.M (Kd.int .u8) _ _ _ (ji5) [.int .u8 (ji5)] from rfl) (Reps.one (show Kd.M (Kd.int .u8) _ _ _ (((x5_2.length : Int)) % 256) [.int .u8 (((x5_2.length : Int)) % 256)] from rfl) (Reps.none _ _)))); intro v190 w28 ho29 hb hg_ hnew_; clear hg_ hnew_; (first | rw [← Ny189.out] at ho29 | (simp only [Int.reduceToNat] at ho29; rw [← Ny189.out] at ho29)); have n0_ := Aside0.mk (Kd.V_elder' (by (with_reducible repeat (first | apply Kd.V_alloc | apply Kd.V_drewN | apply Kd.V_drew)); exact HO_0.out) (Kd.R_base ho29) hb); have n1_ := Aside0.mk (Kd.R_elder' (by (with_reducible repeat (first | apply Kd.R_alloc | apply Kd.R_drewN | apply Kd.R_drew)); exact HO_3.out) (Kd.R_base ho29) hb); have n2_ := Aside0.mk (Kd.R_elder' (by (with_reducible repeat (first | apply Kd.R_alloc | apply Kd.R_drewN | apply Kd.R_drew)); exact HO_5.out) (Kd.R_base ho29) hb); have n3_ := Aside0.mk (Kd.V_elder' (by (with_reducible repeat (first | apply Kd.V_alloc | apply Kd.V_drewN | apply Kd.V_drew)); exact HO_18.out) (Kd.R_base ho29) hb); have n4_ := Aside0.mk (Kd.R_lower (Kd.R_new' (Kd.R_new' (Kd.R_newM (M := fun k_ => (w.heap.size ≤ k_)) ho29 (below_size (by repeat (first | (with_reducible first | exact HB.out | apply below_alloc | apply pw_below_drewN | apply below_drew1) | exact HB.out))) (fun k_ h_ => h_)) (Kd.R_lt (by (with_reducible repeat (first | apply Kd.R_alloc | apply Kd.R_drewN | apply Kd.R_drew)); exact HO_3.out))) (Kd.R_lt (by (with_reducible repeat (first | apply Kd.R_alloc | apply Kd.R_drewN | apply Kd.R_drew)); exact HO_5.out))) (below_size (by repeat (first | (with_reducible first | exact HB.out | apply below_alloc | apply pw_below_drewN | apply below_drew1) | exact HB.out)))); have n5_ := Aside0.mk (below_step (by repeat (first | (with_reducible first | exact HB.out | apply below_alloc | apply pw_below_drewN | apply below_drew1) | exact HB.out)) hb); clear HO_0; clear HO_3; clear HO_5; clear HO_18; clear HB; have HO_0 := n0_; have HO_3 := n1_; have HO_5 := n2_; have HO_18 := n3_; have HO191 := n4_; have HB := n5_; clear n0_ n1_ n2_ n3_ n4_ n5_; clear hb ho29) | ((with_reducible refine gate_builtin (b := .append) (xs := #[.tmp 35, .tmp 36]) rfl ?_); at_builtin; refine Kd.R_append_rows (Kd.int .u8) (w0 := w) w.heap.size rfl (.tmp 35) (.tmp 36) 22 5 (.int .u8 0) 1 rfl Try.underlying22 info5 rfl (by decide) (by omega) v190 y189 x5_2 _ _ _ (fun k_ => (w.heap.size ≤ k_) ∧ some k_ ≠ (u3 : Value).ownBlock ∧ some k_ ≠ (.slice Ao27 x5_2.length co27 : Value).ownBlock) (fun _ => False) rfl rfl ?aO ?aR (fun _ _ h => h) (fun _ h => h.elim) ?aF ?aB ?aS ?aL ?_; (case aR => repeat (first | exact (Kd.R_reads' HO_5.out).2.2 | (with_reducible refine Kd.C_alloc ?_ _) | (with_reducible refine Kd.C_drewN ?_ _) | (with_reducible refine Kd.C_drew ?_))); (case aB => exact (by repeat (first | (with_reducible first | exact HB.out | apply below_alloc | apply pw_below_drewN | apply below_drew1) | exact HB.out))); (case aF => exact (fun k_ hk => ⟨(Nat.le_trans (below_size (by repeat (first | (with_reducible first | exact HB.out | apply below_alloc | apply pw_below_drewN | apply below_drew1) | exact HB.out))) hk), Kd.fresh' (Kd.R_lt (by (with_reducible repeat (first | apply Kd.R_alloc | apply Kd.R_drewN | apply Kd.R_drew)); exact HO_3.out)) k_ hk, Kd.fresh' (Kd.R_lt (by (with_reducible repeat (first | apply Kd.R_alloc | apply Kd.R_drewN | apply Kd.R_drew)); exact HO_5.out)) k_ hk⟩)); (case aO => exact (by (with_reducible repeat (first | apply Kd.R_alloc | apply Kd.R_drewN | apply Kd.R_drew)); exact Kd.R_mono HO191.out (fun _ hk => ⟨hk.1.1.1, ⟨hk.1.2, hk.2⟩⟩))); (case aS => exact (below_size (by repeat (first | (with_reducible first | exact HB.out | apply below_alloc | apply pw_below_drewN | apply below_drew1) | exact HB.out)))); (case aL => have := LMc22.out; omega); intro v193 w30 ho hb hg hat; rw [← Ny192.out] at ho; have n0_ := Aside0.mk (Kd.V_afterv (ok := (fun k_ => (P0_ k_ ∨ w.heap.size ≤ k_) ∧ some k_ ≠ (u3 : Value).ownBlock ∧ some k_ ≠ (.slice Ao27 x5_2.length co27 : Value).ownBlock)) (by (with_reducible repeat (first | apply Kd.V_alloc | apply Kd.V_drewN | apply Kd.V_drew)); exact HO_0.out) hg hat); have n1_ := Aside0.mk (Kd.R_after (ok := (fun k_ => (w.heap.size ≤ k_) ∧ some k_ ≠ (.slice Ao27 x5_2.length co27 : Value).ownBlock)) (by (with_reducible repeat (first | apply Kd.R_alloc | apply Kd.R_drewN | apply Kd.R_drew)); exact HO_3.out) hg hat); have n2_ := Aside0.mk (Kd.R_after (ok := (fun k_ => (w.heap.size ≤ k_) ∧ some k_ ≠ (u3 : Value).ownBlock)) (by (with_reducible repeat (first | apply Kd.R_alloc | apply Kd.R_drewN | apply Kd.R_drew)); exact HO_5.out) hg hat); have n3_ := Aside0.mk (Kd.V_afterv (ok := (fun k_ => (P0_ k_ ∨ w.heap.size ≤ k_) ∧ some k_ ≠ (u3 : Value).ownBlock ∧ some k_ ≠ (.slice Ao27 x5_2.length co27 : Value).ownBlock)) (by (with_reducible repeat (first | apply Kd.V_alloc | apply Kd.V_drewN | apply Kd.V_drew)); exact HO_18.out) hg hat); have n4_ := Aside0.mk (hb); have n5_ := Aside0.mk (ho); clear HO_0; clear HO_3; clear HO_5; clear HO_18; clear HB; clear HO191; have HO_0 := n0_; have HO_3 := n1_; have HO_5 := n2_; have HO_18 := n3_; have HB := n4_; have HO194 := n5_; clear n0_ n1_ n2_ n3_ n4_ n5_; clear ho hb hg hat; obtain ⟨Ao31, co31, eo31⟩ := Kd.R_slice HO194.out; subst eo31) | ((with_reducible refine gate_callee (f := 61) rfl ?_); refine goesL_ (some 38) rfl rfl Try.func61 (by kernel_rfl) rfl #[.slice Ao31 y192.length co31] rfl (by (try simp only [List.map_toArray, List.map_cons, List.map_nil]); first | done | rfl | (simp only [List.length_drop, List.length_take]; rfl)) ?_; (with_reducible refine (impl_sealed.calls k2 _ _ y192 t195 _ ?side1 ?side2 A23.out).mono ?_); (case side1 => repeat (first | exact (Kd.R_reads' HO194.out).2.2 | (with_reducible refine Kd.C_alloc ?_ _) | (with_reducible refine Kd.C_drewN ?_ _) | (with_reducible refine Kd.C_drew ?_))); (case side2 => exact (Kd.R_reads' HO194.out).2.1); rintro e w32 ⟨v196, rfl, ho0, hb⟩; refine ⟨_, rfl, ?_⟩; have n0_ := Aside0.mk (Kd.V_elder' (by (with_reducible repeat (first | apply Kd.V_alloc | apply Kd.V_drewN | apply Kd.V_drew)); exact HO_0.out) (Kd.R_base ho0) hb); have n1_ := Aside0.mk (Kd.R_elder' (by (with_reducible repeat (first | apply Kd.R_alloc | apply Kd.R_drewN | apply Kd.R_drew)); exact HO_3.out) (Kd.R_base ho0) hb); have n2_ := Aside0.mk (Kd.R_elder' (by (with_reducible repeat (first | apply Kd.R_alloc | apply Kd.R_drewN | apply Kd.R_drew)); exact HO_5.out) (Kd.R_base ho0) hb); have n3_ := Aside0.mk (Kd.V_elder' (by (with_reducible repeat (first | apply Kd.V_alloc | apply Kd.V_drewN | apply Kd.V_drew)); exact HO_18.out) (Kd.R_base ho0) hb); have n4_ := Aside0.mk (Kd.R_elder' (by (with_reducible repeat (first | apply Kd.R_alloc | apply Kd.R_drewN | apply Kd.R_drew)); exact HO194.out) (Kd.R_base ho0) hb); have n5_ := Aside0.mk (Kd.R_lower (Kd.R_new' (Kd.R_new' (Kd.R_new' (Kd.R_newM (M := fun k_ => (w.heap.size ≤ k_)) ho0 (below_size (by repeat (first | (with_reducible first | exact HB.out | apply below_alloc | apply pw_below_drewN | apply below_drew1) | exact HB.out))) (fun k_ h_ => h_)) (Kd.R_lt (by (with_reducible repeat (first | apply Kd.R_alloc | apply Kd.R_drewN | apply Kd.R_drew)); exact HO_3.out))) (Kd.R_lt (by (with_reducible repeat (first | apply Kd.R_alloc | apply Kd.R_drewN | apply Kd.R_drew)); exact HO_5.out))) (Kd.R_lt (by (with_reducible repeat (first | apply Kd.R_alloc | apply Kd.R_drewN | apply Kd.R_drew)); exact HO194.out))) (below_size (by repeat (first | (with_reducible first | exact HB.out | apply below_alloc | apply pw_below_drewN | apply below_drew1) | exact HB.out)))); have n6_ := Aside0.mk (below_step (by repeat (first | (with_reducible first | exact HB.out | apply below_alloc | apply pw_below_drewN | apply below_drew1) | exact HB.out)) hb); clear HO_0; clear HO_3; clear HO_5; clear HO_18; clear HO194; clear HB; have HO_0 := n0_; have HO_3 := n1_; have HO_5 := n2_; have HO_18 := n3_; have HO194 := n4_; have HO197 := n5_; have HB := n6_; clear n0_ n1_ n2_ n3_ n4_ n5_ n6_; (try clear hb); (try clear hb2); (try clear hk); (try clear hi); (try clear ho0); obtain ⟨Ao34, co34, eo34⟩ := Kd.R_slice HO197.out; subst eo34) | ((with_reducible refine gate_builtin (b := .append) (xs := #[.tmp 29, .tmp 38]) rfl ?_); at_builtin; refine Kd.R_append_rows (Kd.int .u8) (w0 := w) w.heap.size rfl (.tmp 29) (.tmp 38) 22 5 (.int .u8 0) 1 rfl Try.underlying22 info5 rfl (by decide) (by omega) u3 x3_1 t195 _ _ _ (fun k_ => (w.heap.size ≤ k_) ∧ some k_ ≠ (.slice Ao27 x5_2.length co27 : Value).ownBlock ∧ some k_ ≠ (.slice Ao31 y192.length co31 : Value).ownBlock ∧ some k_ ≠ (.slice Ao34 t195.length co34 : Value).ownBlock) (fun _ => False) rfl rfl ?aO ?aR (fun _ _ h => h) (fun _ h => h.elim) ?aF ?aB ?aS ?aL ?_; (case aR => repeat (first | exact (Kd.R_reads' HO197.out).2.2 | (with_reducible refine Kd.C_alloc ?_ _) | (with_reducible refine Kd.C_drewN ?_ _) | (with_reducible refine Kd.C_drew ?_))); (case aB => exact (by repeat (first | (with_reducible first | exact HB.out | apply below_alloc | apply pw_below_drewN | apply below_drew1) | exact HB.out))); (case aF => exact (fun k_ hk => ⟨(Nat.le_trans (below_size (by repeat (first | (with_reducible first | exact HB.out | apply below_alloc | apply pw_below_drewN | apply below_drew1) | exact HB.out))) hk), Kd.fresh' (Kd.R_lt (by (with_reducible repeat (first | apply Kd.R_alloc | apply Kd.R_drewN | apply Kd.R_drew)); exact HO_5.out)) k_ hk, Kd.fresh' (Kd.R_lt (by (with_reducible repeat (first | apply Kd.R_alloc | apply Kd.R_drewN | apply Kd.R_drew)); exact HO194.out)) k_ hk, Kd.fresh' (Kd.R_lt (by (with_reducible repeat (first | apply Kd.R_alloc | apply Kd.R_drewN | apply Kd.R_drew)); exact HO197.out)) k_ hk⟩)); (case aO => exact (by (with_reducible repeat (first | apply Kd.R_alloc | apply Kd.R_drewN | apply Kd.R_drew)); exact Kd.R_mono HO_3.out (fun _ hk => ⟨hk.1.1.1, ⟨hk.1.1.2, ⟨hk.1.2, hk.2⟩⟩⟩))); (case aS => exact (below_size (by repeat (first | (with_reducible first | exact HB.out | apply below_alloc | apply pw_below_drewN | apply below_drew1) | exact HB.out)))); (case aL => have := LMc24.out; omega); intro v199 w33 ho hb hg hat; rw [← Ny198.out] at ho; have n0_ := Aside0.mk (Kd.V_afterv (ok := (fun k_ => (P0_ k_ ∨ w.heap.size ≤ k_) ∧ some k_ ≠ (.slice Ao27 x5_2.length co27 : Value).ownBlock ∧ some k_ ≠ (.slice Ao31 y192.length co31 : Value).ownBlock ∧ some k_ ≠ (.slice Ao34 t195.length co34 : Value).ownBlock)) (by (with_reducible repeat (first | apply Kd.V_alloc | apply Kd.V_drewN | apply Kd.V_drew)); exact Kd.V_mono HO_0.out (fun _ hk => ⟨⟨hk.1.1.1, ⟨hk.1.1.2.2, ⟨hk.1.2, hk.2⟩⟩⟩, hk.1.1.2.1⟩)) hg hat); have n1_ := Aside0.mk (Kd.R_after (ok := (fun k_ => (w.heap.size ≤ k_) ∧ some k_ ≠ (.slice Ao31 y192.length co31 : Value).ownBlock ∧ some k_ ≠ (.slice Ao34 t195.length co34 : Value).ownBlock)) (by (with_reducible repeat (first | apply Kd.R_alloc | apply Kd.R_drewN | apply Kd.R_drew)); exact Kd.R_mono HO_5.out (fun _ hk => ⟨⟨hk.1.1.1, ⟨hk.1.2, hk.2⟩⟩, hk.1.1.2⟩)) hg hat); have n2_ := Aside0.mk (Kd.V_afterv (ok := (fun k_ => (P0_ k_ ∨ w.heap.size ≤ k_) ∧ some k_ ≠ (.slice Ao27 x5_2.length co27 : Value).ownBlock ∧ some k_ ≠ (.slice Ao31 y192.length co31 : Value).ownBlock ∧ some k_ ≠ (.slice Ao34 t195.length co34 : Value).ownBlock)) (by (with_reducible repeat (first | apply Kd.V_alloc | apply Kd.V_drewN | apply Kd.V_drew)); exact Kd.V_mono HO_18.out (fun _ hk => ⟨⟨hk.1.1.1, ⟨hk.1.1.2.2, ⟨hk.1.2, hk.2⟩⟩⟩, hk.1.1.2.1⟩)) hg hat); have n3_ := Aside0.mk (Kd.R_after (ok := (fun k_ => (w.heap.size ≤ k_) ∧ some k_ ≠ (.slice Ao27 x5_2.length co27 : Value).ownBlock ∧ some k_ ≠ (.slice Ao34 t195.length co34 : Value).ownBlock)) (by (with_reducible repeat (first | apply Kd.R_alloc | apply Kd.R_drewN | apply Kd.R_drew)); exact Kd.R_mono HO194.out (fun _ hk => ⟨⟨hk.1.1, ⟨hk.1.2.2, hk.2⟩⟩, hk.1.2.1⟩)) hg hat); have n4_ := Aside0.mk (Kd.R_after (ok := (fun k_ => (w.heap.size ≤ k_) ∧ some k_ ≠ (.slice Ao27 x5_2.length co27 : Value).ownBlock ∧ some k_ ≠ (.slice Ao31 y192.length co31 : Value).ownBlock)) (by (with_reducible repeat (first | apply Kd.R_alloc | apply Kd.R_drewN | apply Kd.R_drew)); exact Kd.R_mono HO197.out (fun _ hk => ⟨⟨hk.1.1.1.1, ⟨hk.1.2, hk.2⟩⟩, hk.1.1.2⟩)) hg hat); have n5_ := Aside0.mk (hb); have n6_ := Aside0.mk (ho); clear HO_0; clear HO_5; clear HO_18; clear HO194; clear HO197; clear HB; clear HO_3; have HO_0 := n0_; have HO_5 := n1_; have HO_18 := n2_; have HO194 := n3_; have HO197 := n4_; have HB := n5_; have HO200 := n6_; clear n0_ n1_ n2_ n3_ n4_ n5_ n6_; clear ho hb hg hat; have q35 : (ji5 : Int) ≤ ((x0_1.length : Int) : Int) := of_decide_eq_true (by first | (with_reducible assumption) | assumption); obtain ⟨i035, hi035, _, hsz35, _⟩ := info_parts info24; have hroom35 : x0_1.length ≤ co8 := (Kd.V_reads' HO_0.out).2.1; have hC35 : Kd.F k24 _ _ Ao8 x0_1.length x0_1 := (Kd.V_at (base := w.heap.size) HO_0.out).2.2; have q035 : (0 : Int) ≤ (ji5 : Int) := of_decide_eq_true (by first | (with_reducible assumption) | assumption); have hcut35 := cut_from (P := Try.prog) 35 24 .i64 Try.underlying35 hi035 3 hsz35 Ao8 x0_1.length co8 ji5 q035 q35; have hr35 := Kd.F_cut (m := (ji5 : Int).toNat) (c := co8) hC35 (by omega) hroom35; obtain ⟨A35, hA35⟩ : ∃ A1, A1 = (if co8 = (ji5 : Int).toNat then Ao8 else (Ao8 : Option Addr).map (·.add ((ji5 : Int).toNat * 3))) := ⟨_, rfl⟩; obtain ⟨c35, hc35⟩ : ∃ c1, c1 = co8 - (ji5 : Int).toNat := ⟨_, rfl⟩; have hy35 : y201.length = x0_1.length - (ji5 : Int).toNat := (by rw [Ny201.out, List.length_drop] <;> omega); rw [show (x0_1).drop (ji5 : Int).toNat = y201 from Ny201.out.symm] at hr35; replace hr35 : Kd.F k24 _ _ A35 y201.length y201 := (by rw [hA35]; exact hr35); rw [← hy35, ← hA35, ← hc35] at hcut35; have HO205 := Aside0.mk (show Kd.V k24 24 _ w.heap.size _ (.slice A35 y201.length c35) y201 from Kd.V_mk (by rw [hy35, hc35]; exact Nat.sub_le_sub_right hroom35 _) hr35); have HC205 := Aside0.mk (show y201.length ≤ c35 from by rw [hy35, hc35]; exact Nat.sub_le_sub_right hroom35 _); clear hr35 hC35 hroom35 hi035 hsz35 hc35; have KY35 := Aside0.mk hy35; have KA35 := Aside0.mk hA35; clear hy35 hA35; replace q35 := eq_true q35))
                          try subst hji5
                          go_roundg k2
                          case measure => have := HK1.out; have := HK2.out; omega
                          case rel => exact ⟨(y201), (y198), H', ⟨by have := HK1.out; have := HK2.out; omega⟩, ⟨by (with_reducible repeat (first | apply Kd.V_alloc | apply Kd.V_drewN | apply Kd.V_drew)); exact Kd.V_mono HO205.out (fun _ hk => ⟨hk.1.1, hk.2⟩)⟩, ⟨by (with_reducible repeat (first | apply Kd.R_alloc | apply Kd.R_drewN | apply Kd.R_drew)); exact Kd.R_mono HO200.out (fun _ hk => hk.1)⟩, ⟨by repeat (first | (with_reducible first | exact HB.out | apply below_alloc | apply pw_below_drewN | apply below_drew1) | exact HB.out)⟩⟩
                        · rw [if_neg c26] at H
                          exact absurd H (by simp)
                      · rw [if_neg c25] at H
                        exact absurd H (by simp)
                    · rw [if_neg c24] at H
                      exact absurd H (by simp)
                  · rw [if_neg c22] at H
                    exact absurd H (by simp)
          · rw [if_neg c7] at H
            exact absurd H (by simp)
        · rw [if_neg c6] at H
          exact absurd H (by simp)
      · rw [if_neg c4] at H
        have c4b0 : decide (0 < (x0_1.length : Int)) = false := decide_eq_false c4
        have c4b1 : decide (0 < x0_1.length) = false := decide_eq_false (by omega)
        clear c4
        obtain rfl := Option.some.inj H
        obtain ⟨Ao36, co36, eo36⟩ := Kd.V_slice HO_0.out
        subst eo36
        go_wp2
        go_ret
        exact ⟨_, by first | rfl | (simp [errW_none, errW_some] <;> rfl) | (simp [*, errW_none, errW_some] <;> rfl), by (with_reducible repeat (first | apply Kd.R_alloc | apply Kd.R_drewN | apply Kd.R_drew)); exact HO_3.out, by repeat (first | (with_reducible first | exact HB.out | apply below_alloc | apply pw_below_drewN | apply below_drew1) | exact HB.out)⟩

/-! ### impl_UnpackOps: function 31 -/
def impl_UnpackOps.f (k : Nat) (l0 : List Int) : Option ((List (S24)) × Bool) := (impl_ScanOps.f l0).bind fun bt206 => (if bt206.2.2 = 0 then ((impl_packed.f k bt206.1).bind fun t211 => ((bytes_Equal.f t211 l0).bind fun t214 => (if t214 = true then (some (bt206.1, true)) else (some (([] : List (S24)), false))))) else (some (([] : List (S24)), false)))
theorem impl_UnpackOps.mono : ∀ a0 k, LeO (impl_UnpackOps.f k a0) (impl_UnpackOps.f (k + 1) a0) := by
  intro a0 k
  unfold impl_UnpackOps.f
  repeat' first
      | (with_reducible exact impl_packed.mono _ _)
      | (with_reducible exact LeO.refl _)
      | (with_reducible exact LeO.none _)
      | (with_reducible refine LeO.ite ?_ ?_)
      | (with_reducible refine LeO.bind ?_ (fun _ => ?_))
      | exact impl_packed.mono _ _
      | exact LeO.none _
      | refine LeO.ite ?_ ?_
      | refine LeO.bind ?_ (fun _ => ?_)
set_option maxHeartbeats 8000000 in
set_option maxRecDepth 100000 in
theorem impl_UnpackOps.calls (k : Nat) (A0 : Option Addr) (c0 : Nat) (l0 : List Int) (r1 : List (S24)) (r2 : Bool) (w : World) (hr0 : Kd.C (Kd.int .u8) w A0 l0.length l0) (hc0 : l0.length ≤ c0) (h : impl_UnpackOps.f k l0 = some (r1, r2)) :
    Calls Try.prog 31 #[.slice A0 l0.length c0] w fun e w' => ∃ v0_ : Value, e = .returned (.tuple #[v0_, .bool r2]) ∧ Kd.R k24 24 w' w.heap.size (fun _ => True) v0_ r1 ∧ Below w.heap.size w w' := by
  have HR0 := Aside0.mk hr0
  have HC0 := Aside0.mk hc0
  clear hr0 hc0
  have HB := Aside0.mk (Below.refl w.heap.size w)
  have H : ((impl_ScanOps.f l0).bind fun bt206 => (if bt206.2.2 = 0 then ((impl_packed.f k bt206.1).bind fun t211 => ((bytes_Equal.f t211 l0).bind fun t214 => (if t214 = true then (some (bt206.1, true)) else (some (([] : List (S24)), false))))) else (some (([] : List (S24)), false)))) = some (r1, r2) := h
  clear h
  replace H := Option.bind_eq_some_iff.mp H
  obtain ⟨⟨t206, t207, t208⟩, A20, H⟩ := H
  replace H : (if t208 = 0 then ((impl_packed.f k t206).bind fun t211 => ((bytes_Equal.f t211 l0).bind fun t214 => (if t214 = true then (some (t206, true)) else (some (([] : List (S24)), false))))) else (some (([] : List (S24)), false))) = some (r1, r2) := H
  have A2 := Aside0.mk A20
  clear A20
  by_cases c3 : t208 = 0
  · rw [if_pos c3] at H
    have c3b0 : (t208 == 0) = true := beq_iff_eq.mpr c3
    have c3b1 : (t208 != 0) = false := bne_eq_false_iff_eq.mpr c3
    clear c3
    replace H := Option.bind_eq_some_iff.mp H
    obtain ⟨t211, A40, H⟩ := H
    replace H : ((bytes_Equal.f t211 l0).bind fun t214 => (if t214 = true then (some (t206, true)) else (some (([] : List (S24)), false)))) = some (r1, r2) := H
    have A4 := Aside0.mk A40
    clear A40
    replace H := Option.bind_eq_some_iff.mp H
    obtain ⟨t214, A50, H⟩ := H
    replace H : (if t214 = true then (some (t206, true)) else (some (([] : List (S24)), false))) = some (r1, r2) := H
    have A5 := Aside0.mk A50
    clear A50
    by_cases c6 : t214 = true
    · subst c6
      have H1 : (some (t206, true)) = some (r1, r2) := by rw [if_pos rfl] at H; exact H
      clear H
      have H := H1
      clear H1
      simp only [Option.some.injEq, Prod.mk.injEq] at H
      obtain ⟨rfl, rfl⟩ := H
      go_enter Try.func31, Try.ntmps31
      go_wp2_with (first | ((with_reducible refine gate_callee (f := 26) rfl ?_); refine goesL_ (some 9) rfl rfl Try.func26 (by kernel_rfl) rfl #[.slice A0 l0.length c0] rfl (by (try simp only [List.map_toArray, List.map_cons, List.map_nil]); first | done | rfl | (simp only [List.length_drop, List.length_take]; rfl)) ?_; (with_reducible refine (impl_ScanOps.calls _ _ l0 t206 t207 t208 _ ?side1 ?side2 A2.out).mono ?_); (case side1 => repeat (first | exact HR0.out | (with_reducible refine Kd.C_alloc ?_ _) | (with_reducible refine Kd.C_drewN ?_ _) | (with_reducible refine Kd.C_drew ?_))); (case side2 => exact HC0.out); rintro e w7 ⟨v209, rfl, ho0, hb⟩; refine ⟨_, rfl, ?_⟩; have n0_ := Aside0.mk (Kd.R_lower ho0 (below_size (by repeat (first | (with_reducible first | exact HB.out | apply below_alloc | apply pw_below_drewN | apply below_drew1) | exact HB.out)))); have n1_ := Aside0.mk (below_step (by repeat (first | (with_reducible first | exact HB.out | apply below_alloc | apply pw_below_drewN | apply below_drew1) | exact HB.out)) hb); clear HB; have HO210 := n0_; have HB := n1_; clear n0_ n1_; (try clear hb); (try clear hb2); (try clear hk); (try clear hi); (try clear ho0); obtain ⟨Ao8, co8, eo8⟩ := Kd.R_slice HO210.out; subst eo8) | (go_at_call 47; (with_reducible refine (impl_packed.calls k (fun k_ => some k_ = (.slice Ao8 t206.length co8 : Value).ownBlock) _ _ t206 t211 _ ?side1 A4.out).mono ?_); (case side1 => exact Kd.R_V (Kd.R_tight rfl (HO210.out))); rintro e w9 ⟨v212, rfl, ho0, hb⟩; have n0_ := Aside0.mk (Kd.R_below (by (with_reducible repeat (first | apply Kd.R_alloc | apply Kd.R_drewN | apply Kd.R_drew)); exact HO210.out) hb); have n1_ := Aside0.mk (Kd.R_lower (Kd.R_mono (ok' := fun k_ => True) ho0 (fun _ hk_ => trivial)) (below_size (by repeat (first | (with_reducible first | exact HB.out | apply below_alloc | apply pw_below_drewN | apply below_drew1) | exact HB.out)))); have n2_ := Aside0.mk (below_step (by repeat (first | (with_reducible first | exact HB.out | apply below_alloc | apply pw_below_drewN | apply below_drew1) | exact HB.out)) hb); clear HO210; clear HB; have HO210 := n0_; have HO213 := n1_; have HB := n2_; clear n0_ n1_ n2_; (try clear hb); (try clear hb2); (try clear hk); (try clear hi); (try clear ho0); obtain ⟨Ao10, co10, eo10⟩ := Kd.R_slice HO213.out; subst eo10) | (go_at_call 54; (with_reducible refine (bytes_Equal.calls _ _ t211 _ _ l0 true _ ?side1 ?side2 ?side3 ?side4 A5.out).mono ?_); (case side1 => repeat (first | exact (Kd.R_reads' HO213.out).2.2 | (with_reducible refine Kd.C_alloc ?_ _) | (with_reducible refine Kd.C_drewN ?_ _) | (with_reducible refine Kd.C_drew ?_))); (case side2 => exact (Kd.R_reads' HO213.out).2.1); (case side3 => repeat (first | exact (Kd.C_below HR0.out HB.out) | (with_reducible refine Kd.C_alloc ?_ _) | (with_reducible refine Kd.C_drewN ?_ _) | (with_reducible refine Kd.C_drew ?_))); (case side4 => exact HC0.out); rintro e w' ⟨rfl, ⟨nd, rfl⟩⟩))
      go_ret2
      exact ⟨_, by first | rfl | (simp [errW_none, errW_some] <;> rfl) | (simp [*, errW_none, errW_some] <;> rfl), by (with_reducible repeat (first | apply Kd.R_alloc | apply Kd.R_drewN | apply Kd.R_drew)); exact HO210.out, by repeat (first | (with_reducible first | exact HB.out | apply below_alloc | apply pw_below_drewN | apply below_drew1) | exact HB.out)⟩
    · replace c6 := Bool.eq_false_iff.mpr c6
      subst c6
      have H1 : (some (([] : List (S24)), false)) = some (r1, r2) := by rw [if_neg (show ¬ (false = true) by decide)] at H; exact H
      clear H
      have H := H1
      clear H1
      simp only [Option.some.injEq, Prod.mk.injEq] at H
      obtain ⟨rfl, rfl⟩ := H
      go_enter Try.func31, Try.ntmps31
      go_wp2_with (first | ((with_reducible refine gate_callee (f := 26) rfl ?_); refine goesL_ (some 9) rfl rfl Try.func26 (by kernel_rfl) rfl #[.slice A0 l0.length c0] rfl (by (try simp only [List.map_toArray, List.map_cons, List.map_nil]); first | done | rfl | (simp only [List.length_drop, List.length_take]; rfl)) ?_; (with_reducible refine (impl_ScanOps.calls _ _ l0 t206 t207 t208 _ ?side1 ?side2 A2.out).mono ?_); (case side1 => repeat (first | exact HR0.out | (with_reducible refine Kd.C_alloc ?_ _) | (with_reducible refine Kd.C_drewN ?_ _) | (with_reducible refine Kd.C_drew ?_))); (case side2 => exact HC0.out); rintro e w11 ⟨v209, rfl, ho0, hb⟩; refine ⟨_, rfl, ?_⟩; have n0_ := Aside0.mk (Kd.R_lower ho0 (below_size (by repeat (first | (with_reducible first | exact HB.out | apply below_alloc | apply pw_below_drewN | apply below_drew1) | exact HB.out)))); have n1_ := Aside0.mk (below_step (by repeat (first | (with_reducible first | exact HB.out | apply below_alloc | apply pw_below_drewN | apply below_drew1) | exact HB.out)) hb); clear HB; have HO210 := n0_; have HB := n1_; clear n0_ n1_; (try clear hb); (try clear hb2); (try clear hk); (try clear hi); (try clear ho0); obtain ⟨Ao12, co12, eo12⟩ := Kd.R_slice HO210.out; subst eo12) | (go_at_call 47; (with_reducible refine (impl_packed.calls k (fun k_ => some k_ = (.slice Ao12 t206.length co12 : Value).ownBlock) _ _ t206 t211 _ ?side1 A4.out).mono ?_); (case side1 => exact Kd.R_V (Kd.R_tight rfl (HO210.out))); rintro e w13 ⟨v212, rfl, ho0, hb⟩; have n0_ := Aside0.mk (Kd.R_below (by (with_reducible repeat (first | apply Kd.R_alloc | apply Kd.R_drewN | apply Kd.R_drew)); exact HO210.out) hb); have n1_ := Aside0.mk (Kd.R_lower (Kd.R_mono (ok' := fun k_ => True) ho0 (fun _ hk_ => trivial)) (below_size (by repeat (first | (with_reducible first | exact HB.out | apply below_alloc | apply pw_below_drewN | apply below_drew1) | exact HB.out)))); have n2_ := Aside0.mk (below_step (by repeat (first | (with_reducible first | exact HB.out | apply below_alloc | apply pw_below_drewN | apply below_drew1) | exact HB.out)) hb); clear HO210; clear HB; have HO210 := n0_; have HO213 := n1_; have HB := n2_; clear n0_ n1_ n2_; (try clear hb); (try clear hb2); (try clear hk); (try clear hi); (try clear ho0); obtain ⟨Ao14, co14, eo14⟩ := Kd.R_slice HO213.out; subst eo14) | (go_at_call 54; (with_reducible refine (bytes_Equal.calls _ _ t211 _ _ l0 false _ ?side1 ?side2 ?side3 ?side4 A5.out).mono ?_); (case side1 => repeat (first | exact (Kd.R_reads' HO213.out).2.2 | (with_reducible refine Kd.C_alloc ?_ _) | (with_reducible refine Kd.C_drewN ?_ _) | (with_reducible refine Kd.C_drew ?_))); (case side2 => exact (Kd.R_reads' HO213.out).2.1); (case side3 => repeat (first | exact (Kd.C_below HR0.out HB.out) | (with_reducible refine Kd.C_alloc ?_ _) | (with_reducible refine Kd.C_drewN ?_ _) | (with_reducible refine Kd.C_drew ?_))); (case side4 => exact HC0.out); rintro e w' ⟨rfl, ⟨nd, rfl⟩⟩))
      go_ret2
      exact ⟨_, by first | rfl | (simp [errW_none, errW_some] <;> rfl) | (simp [*, errW_none, errW_some] <;> rfl), by first | exact Kd.R_nil _ _ _ _ _ | exact Kd.N_nil _ _ _ _ _ | exact Kd.V_nil _ _ _ _ _ | exact Kd.Q_nil _ _ _ _ _ | exact Kd.S_nil _ _ _ _ _, by repeat (first | (with_reducible first | exact HB.out | apply below_alloc | apply pw_below_drewN | apply below_drew1) | exact HB.out)⟩
  · rw [if_neg c3] at H
    have c3b0 : (t208 == 0) = false := beq_eq_false_iff_ne.mpr c3
    have c3b1 : (t208 != 0) = true := bne_iff_ne.mpr c3
    simp only [Option.some.injEq, Prod.mk.injEq] at H
    obtain ⟨rfl, rfl⟩ := H
    go_enter Try.func31, Try.ntmps31
    go_wp2_with (first | ((with_reducible refine gate_callee (f := 26) rfl ?_); refine goesL_ (some 9) rfl rfl Try.func26 (by kernel_rfl) rfl #[.slice A0 l0.length c0] rfl (by (try simp only [List.map_toArray, List.map_cons, List.map_nil]); first | done | rfl | (simp only [List.length_drop, List.length_take]; rfl)) ?_; (with_reducible refine (impl_ScanOps.calls _ _ l0 t206 t207 t208 _ ?side1 ?side2 A2.out).mono ?_); (case side1 => repeat (first | exact HR0.out | (with_reducible refine Kd.C_alloc ?_ _) | (with_reducible refine Kd.C_drewN ?_ _) | (with_reducible refine Kd.C_drew ?_))); (case side2 => exact HC0.out); rintro e w15 ⟨v209, rfl, ho0, hb⟩; refine ⟨_, rfl, ?_⟩; have n0_ := Aside0.mk (Kd.R_lower ho0 (below_size (by repeat (first | (with_reducible first | exact HB.out | apply below_alloc | apply pw_below_drewN | apply below_drew1) | exact HB.out)))); have n1_ := Aside0.mk (below_step (by repeat (first | (with_reducible first | exact HB.out | apply below_alloc | apply pw_below_drewN | apply below_drew1) | exact HB.out)) hb); clear HB; have HO210 := n0_; have HB := n1_; clear n0_ n1_; (try clear hb); (try clear hb2); (try clear hk); (try clear hi); (try clear ho0)))
    go_ret2
    exact ⟨_, by first | rfl | (simp [errW_none, errW_some] <;> rfl) | (simp [*, errW_none, errW_some] <;> rfl), by first | exact Kd.R_nil _ _ _ _ _ | exact Kd.N_nil _ _ _ _ _ | exact Kd.V_nil _ _ _ _ _ | exact Kd.Q_nil _ _ _ _ _ | exact Kd.S_nil _ _ _ _ _, by repeat (first | (with_reducible first | exact HB.out | apply below_alloc | apply pw_below_drewN | apply below_drew1) | exact HB.out)⟩

end Go.Proofs.Ytimlccgpeoaigaa.PFnExactUnpackOps
