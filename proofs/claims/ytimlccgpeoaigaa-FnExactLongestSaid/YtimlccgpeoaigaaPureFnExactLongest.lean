/- FnExactLongest: the pure statement: the program's Longest and the reference's answer alike, for all bytes, and nothing is shared. No condition. -/
import Derived.Test.YtimlccgpeoaigaaPFnExactLongesty
namespace Go.Proofs.Ytimlccgpeoaigaa.Pure
open Go.RowKit Go.Proofs.Ytimlccgpeoaigaa.PFnExactLongest Go.Proofs.YtimlccgpeoaigaaW.PrintWords Go.Proofs.YtimlccgpeoaigaaW.PrintLast

theorem wr1 {n m : Nat} (h : n < m) (hm : m ≤ 1048576) : wrap64 ((n : Int) + 1) = ((n + 1 : Nat) : Int) := by
  unfold wrap64
  omega
theorem take_set (l acc : List Int) (n : Nat) (h : n < l.length) (hl : acc.length = l.length) (ht : acc.take n = l.take n) :
    (acc.set n (rd l n)).take (n + 1) = l.take (n + 1) := by
  rw [List.take_succ_eq_append_getElem (by simp; omega), List.take_succ_eq_append_getElem h]
  simp [ht, rd_at h, List.take_set_of_le]
theorem toByteS_loop (l : List Int) (hl : l.length ≤ 1048576) (d : Nat) : ∀ (n k : Nat) (acc : List Int), acc.length = l.length → n + d = l.length → d < k → acc.take n = l.take n →
    laws_toByteS.l0 k l acc (n : Int) = some l := by
  induction d with
  | zero =>
    intro n k acc ha hn hk ht
    obtain ⟨k, rfl⟩ : ∃ m, k = m + 1 := ⟨k - 1, by omega⟩
    simp only [laws_toByteS.l0]
    rw [if_neg (by omega)]
    rw [List.take_of_length_le (by omega), List.take_of_length_le (by omega)] at ht
    rw [ht]
  | succ d ih =>
    intro n k acc ha hn hk ht
    obtain ⟨k, rfl⟩ : ∃ m, k = m + 1 := ⟨k - 1, by omega⟩
    have hlt : n < l.length := by omega
    simp only [laws_toByteS.l0]
    rw [if_pos (by omega), if_pos (by omega), if_pos (by omega), wr1 hlt hl]
    exact ih (n + 1) k _ (by simp [ha]) (by omega) (by omega) (take_set l acc n hlt ha ht)
theorem toByteS_tells (l : List Int) (hl : l.length ≤ 1048576) (k : Nat) (hk : l.length < k) : laws_toByteS.f k l = some l := by
  unfold laws_toByteS.f
  rw [if_pos (by omega), if_pos (by omega)]
  exact toByteS_loop l hl l.length 0 k _ (by simp) (by omega) hk rfl

theorem eqByteS_loop (l : List Int) (hl : l.length ≤ 1048576) (d : Nat) : ∀ (n k : Nat), n + d = l.length → d < k → laws_eqByteS.l0 k l l (n : Int) = some true := by
  induction d with
  | zero =>
    intro n k hn hk
    obtain ⟨k, rfl⟩ : ∃ m, k = m + 1 := ⟨k - 1, by omega⟩
    simp only [laws_eqByteS.l0]
    rw [if_neg (by omega)]
  | succ d ih =>
    intro n k hn hk
    obtain ⟨k, rfl⟩ : ∃ m, k = m + 1 := ⟨k - 1, by omega⟩
    have hlt : n < l.length := by omega
    simp only [laws_eqByteS.l0]
    rw [if_pos (by omega), if_pos (by omega), if_pos (by omega), if_pos trivial, wr1 hlt hl]
    exact ih (n + 1) k (by omega) (by omega)
theorem eqByteS_tells (l : List Int) (hl : l.length ≤ 1048576) (k : Nat) (hk : l.length < k) : laws_eqByteS.f k l l = some true := by
  unfold laws_eqByteS.f
  rw [if_pos rfl]
  exact eqByteS_loop l hl l.length 0 k (by omega) hk

def marks (a n : Nat) : List Int := (List.range n).map fun i => ((a + i : Nat) : Int) % 256
theorem marks_length (a n : Nat) : (marks a n).length = n := by simp [marks]
theorem marks_at (a : Nat) {n i : Nat} (h : i < n) : rd (marks a n) (i : Int) = ((a + i : Nat) : Int) % 256 := by
  rw [rd_at (by rw [marks_length]; exact h)]
  simp [marks]
theorem marks_succ (a n : Nat) : marks a (n + 1) = marks a n ++ [((a + n : Nat) : Int) % 256] := by simp [marks, List.range_succ]
theorem wr2 {a n m : Nat} (h : n < m) (hm : m ≤ 1048576) (ha : a ≤ 1048576) : wrap64 (((a + n : Nat) : Int) + 1) = ((a + (n + 1) : Nat) : Int) := by
  unfold wrap64
  omega
theorem markByteS_loop (a : Nat) (ha : a ≤ 1048576) (d : Nat) : ∀ (n k : Nat) (x : List Int), x.length ≤ 1048576 → x.length = n + d → d < k → x.take n = marks a n →
    laws_markByteS.l0 k x ((a + n : Nat) : Int) (n : Int) = some (((a + x.length : Nat) : Int), marks a x.length) := by
  induction d with
  | zero =>
    intro n k x hl hx hk ht
    obtain ⟨k, rfl⟩ : ∃ m, k = m + 1 := ⟨k - 1, by omega⟩
    simp only [laws_markByteS.l0]
    rw [if_neg (by omega)]
    rw [List.take_of_length_le (by omega)] at ht
    obtain rfl : n = x.length := by omega
    rw [← ht]
  | succ d ih =>
    intro n k x hl hx hk ht
    obtain ⟨k, rfl⟩ : ∃ m, k = m + 1 := ⟨k - 1, by omega⟩
    have hlt : n < x.length := by omega
    simp only [laws_markByteS.l0]
    rw [if_pos (by omega), if_pos (by omega), wr1 hlt hl, wr2 hlt hl ha]
    have := ih (n + 1) k (x.set n (((a + n : Nat) : Int) % 256)) (by simpa using hl) (by simp; omega) (by omega) (by
      rw [List.take_succ_eq_append_getElem (by simp; omega), marks_succ]
      simp [List.take_set_of_le, ht])
    simpa using this
theorem markByteS_tells (a : Nat) (ha : a ≤ 1048576) (x : List Int) (hl : x.length ≤ 1048576) (k : Nat) (hk : x.length < k) : laws_markByteS.f k x (a : Int) = some (((a + x.length : Nat) : Int), marks a x.length) := by
  unfold laws_markByteS.f
  exact markByteS_loop a ha x.length 0 k x hl (by omega) hk rfl
theorem heldByteS_loop (a L : Nat) (ha : a ≤ 1048576) (hl : L ≤ 1048576) (d : Nat) : ∀ (n k : Nat), L = n + d → d < k → laws_heldByteS.l0 k (marks a L) ((a + n : Nat) : Int) (n : Int) = some ((a + L : Nat) : Int) := by
  induction d with
  | zero =>
    intro n k hx hk
    obtain ⟨k, rfl⟩ : ∃ m, k = m + 1 := ⟨k - 1, by omega⟩
    simp only [laws_heldByteS.l0, marks_length]
    rw [if_neg (by omega)]
    subst hx; rfl
  | succ d ih =>
    intro n k hx hk
    obtain ⟨k, rfl⟩ : ∃ m, k = m + 1 := ⟨k - 1, by omega⟩
    have hlt : n < L := by omega
    simp only [laws_heldByteS.l0, marks_length]
    rw [if_pos (by omega), if_pos (by omega), marks_at a hlt, if_pos rfl, wr1 hlt hl, wr2 hlt hl ha]
    exact ih (n + 1) k (by omega) (by omega)
theorem heldByteS_tells (a L : Nat) (ha : a ≤ 1048576) (hl : L ≤ 1048576) (k : Nat) (hk : L < k) : laws_heldByteS.f k (marks a L) (a : Int) = some ((a + L : Nat) : Int) := by
  unfold laws_heldByteS.f
  exact heldByteS_loop a L ha hl L 0 k (by omega) hk

theorem l01Bytes_loop (l : List Int) (hl : l.length ≤ 1048576) (d : Nat) : ∀ (n k : Nat) (acc : List Int), n + d = l.length → d < k → acc = l.take n → spec_l01Bytes.l0 k l acc (n : Int) = some l := by
  induction d with
  | zero =>
    intro n k acc hn hk ha
    obtain ⟨k, rfl⟩ : ∃ m, k = m + 1 := ⟨k - 1, by omega⟩
    simp only [spec_l01Bytes.l0]
    rw [if_neg (by omega), ha, List.take_of_length_le (by omega)]
  | succ d ih =>
    intro n k acc hn hk ha
    obtain ⟨k, rfl⟩ : ∃ m, k = m + 1 := ⟨k - 1, by omega⟩
    have hlt : n < l.length := by omega
    have hlen : acc.length ≤ n := by rw [ha, List.length_take]; exact Nat.min_le_left _ _
    simp only [spec_l01Bytes.l0]
    rw [if_pos (by omega), if_pos (by omega), if_pos (by omega), wr1 hlt hl]
    refine ih (n + 1) k _ (by omega) (by omega) ?_
    rw [ha, rd_at hlt, List.take_succ_eq_append_getElem hlt]
theorem l01Bytes_tells (l : List Int) (hl : l.length ≤ 1048576) (k : Nat) (hk : l.length < k) : spec_l01Bytes.f k l = some l := by
  unfold spec_l01Bytes.f
  exact l01Bytes_loop l hl l.length 0 k [] (by omega) hk rfl
theorem scanS_le (l : List Int) (hby : ∀ x ∈ l, 0 ≤ x ∧ x ≤ 255) : 0 ≤ (scanS l).2.1 ∧ (scanS l).2.1 ≤ (l.length : Int) := by
  unfold scanS
  split
  · exact ⟨by decide, by simp⟩
  · exact scanFrom_le l hby _ _ _ (by omega) (by omega)
def longest (l : List Int) : List Int := l.take (scanS l).2.1.toNat
theorem longest_len (l : List Int) : (longest l).length ≤ l.length := by unfold longest; rw [List.length_take]; exact Nat.min_le_right _ _
theorem specLongest_tells (l : List Int) (hby : ∀ x ∈ l, 0 ≤ x ∧ x ≤ 255) (hl : l.length ≤ 1048576) (k : Nat) (hk : l.length < k) : spec_Longest.f k l = some (longest l) := by
  have h1 := scanS_le l hby
  have h2 := longest_len l
  unfold spec_Longest.f spec_ScanOps.f
  rw [if_pos hby]
  simp only [Option.bind_some]
  rw [if_pos h1.1, if_pos h1.2, show l.take (scanS l).2.1.toNat = longest l from rfl, l01Bytes_tells _ (by omega) k (by omega)]
  rfl
theorem implLongest_tells (l : List Int) (hby : ∀ x ∈ l, 0 ≤ x ∧ x ≤ 255) (hl : l.length ≤ 1048576) : impl_Longest.f l = some (longest l) := by
  have h1 := scanS_le l hby
  have h2 := longest_len l
  unfold impl_Longest.f impl_ScanOps.f slices_Clone_byte_byte.f
  rw [if_pos hby]
  simp only [Option.bind_some]
  rw [if_pos h1.1, if_pos h1.2, show l.take (scanS l).2.1.toNat = longest l from rfl, if_pos (by omega)]
  rfl
theorem FnExactLongest (l : List Int) (_ : l.length ≤ maxLen) (_ : l.length * 1 ≤ 140737488351232) (hwf : ∀ x ∈ l, (Lit.int .u8 x).wf = true) : ∃ k, laws_FnExactLongest.f k l = some true := by
  by_cases hb : (l.length : Int) > 1048576
  · exact ⟨0, by unfold laws_FnExactLongest.f; rw [if_pos hb]⟩
  · have hl : l.length ≤ 1048576 := by omega
    have hby : ∀ x ∈ l, 0 ≤ x ∧ x ≤ 255 := fun x hx => by
      have := hwf x hx
      simp [Lit.wf] at this
      have e1 : IntKind.u8.min = 0 := by decide
      have e2 : IntKind.u8.max = 255 := by decide
      omega
    have h2 := longest_len l
    refine ⟨l.length + 3, ?_⟩
    have ht := toByteS_tells l hl
    have hs := specLongest_tells l hby hl (l.length + 3) (by omega)
    have hi := implLongest_tells l hby hl
    have he := eqByteS_tells l hl (l.length + 3) (by omega)
    have he1 := eqByteS_tells (longest l) (by omega)
    have hm0 := markByteS_tells 1 (by omega) l (by omega) (l.length + 3) (by omega)
    have hm := markByteS_tells 1 (by omega) (longest l) (by omega) (l.length + 2) (by omega)
    have hh := heldByteS_tells 1 (longest l).length (by omega) (by omega) (l.length + 2) (by omega)
    unfold laws_FnExactLongest.f
    rw [if_neg hb, ht (l.length + 3) (by omega)]
    simp only [Option.bind_some, hs, hi, he1 (l.length + 3) (by omega), reduceIte, he]
    rw [show (1 : Int) = ((1 : Nat) : Int) from rfl, hm0]
    simp only [Option.bind_some]
    rw [if_neg (by omega), show l.length + 3 = (l.length + 2) + 1 from rfl]
    simp only [laws_FnExactLongest.j0, Bool.not_true, Bool.false_eq_true, reduceIte]
    rw [show (1 : Int) = ((1 : Nat) : Int) from rfl, hm]
    simp only [Option.bind_some]
    rw [hh]
    simp only [Option.bind_some]
    rw [if_neg (by omega)]
    simp only [reduceIte, ht (l.length + 2) (by omega), Option.bind_some, hi, he1 (l.length + 2) (by omega)]
    rw [if_neg (by omega)]

end Go.Proofs.Ytimlccgpeoaigaa.Pure
