/- FnExactScanOps: the pure statement: the program's ScanOps and the reference's answer alike, for all bytes, and nothing is shared. No condition. -/
import Derived.Test.YtimlccgpeoaigaaPFnExactScanOpsy
namespace Go.Proofs.Ytimlccgpeoaigaa.Pure
open Go.RowKit Go.Proofs.Ytimlccgpeoaigaa.PFnExactScanOps Go.Proofs.YtimlccgpeoaigaaW.PrintWords Go.Proofs.YtimlccgpeoaigaaW.PrintLast

theorem wr1 {n m : Nat} (h : n < m) (hm : m ≤ 1048576) : wrap64 ((n : Int) + 1) = ((n + 1 : Nat) : Int) := by
  unfold wrap64
  omega
theorem take_set (l acc : List Int) (n : Nat) (h : n < l.length) (hl : acc.length = l.length) (ht : acc.take n = l.take n) :
    (acc.set n (rd l n)).take (n + 1) = l.take (n + 1) := by
  rw [List.take_succ_eq_append_getElem (by simp; omega), List.take_succ_eq_append_getElem h]
  simp [ht, rd_at h, List.take_set_of_le]
theorem toByteS_loop (l : List Int) (hl : l.length ≤ 1048576) (d : Nat) : ∀ (n k : Nat) (acc : List Int), acc.length = l.length → n + d = l.length → d < k → acc.take n = l.take n →
    laws_toByteS.l0 k l acc (n : Int) = some l := by
  induction d with
  | zero =>
    intro n k acc ha hn hk ht
    obtain ⟨k, rfl⟩ : ∃ m, k = m + 1 := ⟨k - 1, by omega⟩
    simp only [laws_toByteS.l0]
    rw [if_neg (by omega)]
    rw [List.take_of_length_le (by omega), List.take_of_length_le (by omega)] at ht
    rw [ht]
  | succ d ih =>
    intro n k acc ha hn hk ht
    obtain ⟨k, rfl⟩ : ∃ m, k = m + 1 := ⟨k - 1, by omega⟩
    have hlt : n < l.length := by omega
    simp only [laws_toByteS.l0]
    rw [if_pos (by omega), if_pos (by omega), if_pos (by omega), wr1 hlt hl]
    exact ih (n + 1) k _ (by simp [ha]) (by omega) (by omega) (take_set l acc n hlt ha ht)
theorem toByteS_tells (l : List Int) (hl : l.length ≤ 1048576) (k : Nat) (hk : l.length < k) : laws_toByteS.f k l = some l := by
  unfold laws_toByteS.f
  rw [if_pos (by omega), if_pos (by omega)]
  exact toByteS_loop l hl l.length 0 k _ (by simp) (by omega) hk rfl

theorem eqByteS_loop (l : List Int) (hl : l.length ≤ 1048576) (d : Nat) : ∀ (n k : Nat), n + d = l.length → d < k → laws_eqByteS.l0 k l l (n : Int) = some true := by
  induction d with
  | zero =>
    intro n k hn hk
    obtain ⟨k, rfl⟩ : ∃ m, k = m + 1 := ⟨k - 1, by omega⟩
    simp only [laws_eqByteS.l0]
    rw [if_neg (by omega)]
  | succ d ih =>
    intro n k hn hk
    obtain ⟨k, rfl⟩ : ∃ m, k = m + 1 := ⟨k - 1, by omega⟩
    have hlt : n < l.length := by omega
    simp only [laws_eqByteS.l0]
    rw [if_pos (by omega), if_pos (by omega), if_pos (by omega), if_pos trivial, wr1 hlt hl]
    exact ih (n + 1) k (by omega) (by omega)
theorem eqByteS_tells (l : List Int) (hl : l.length ≤ 1048576) (k : Nat) (hk : l.length < k) : laws_eqByteS.f k l l = some true := by
  unfold laws_eqByteS.f
  rw [if_pos rfl]
  exact eqByteS_loop l hl l.length 0 k (by omega) hk

def marks (a n : Nat) : List Int := (List.range n).map fun i => ((a + i : Nat) : Int) % 256
theorem marks_length (a n : Nat) : (marks a n).length = n := by simp [marks]
theorem marks_at (a : Nat) {n i : Nat} (h : i < n) : rd (marks a n) (i : Int) = ((a + i : Nat) : Int) % 256 := by
  rw [rd_at (by rw [marks_length]; exact h)]
  simp [marks]
theorem marks_succ (a n : Nat) : marks a (n + 1) = marks a n ++ [((a + n : Nat) : Int) % 256] := by simp [marks, List.range_succ]
theorem wr2 {a n m : Nat} (h : n < m) (hm : m ≤ 1048576) (ha : a ≤ 1048576) : wrap64 (((a + n : Nat) : Int) + 1) = ((a + (n + 1) : Nat) : Int) := by
  unfold wrap64
  omega
theorem markByteS_loop (a : Nat) (ha : a ≤ 1048576) (d : Nat) : ∀ (n k : Nat) (x : List Int), x.length ≤ 1048576 → x.length = n + d → d < k → x.take n = marks a n →
    laws_markByteS.l0 k x ((a + n : Nat) : Int) (n : Int) = some (((a + x.length : Nat) : Int), marks a x.length) := by
  induction d with
  | zero =>
    intro n k x hl hx hk ht
    obtain ⟨k, rfl⟩ : ∃ m, k = m + 1 := ⟨k - 1, by omega⟩
    simp only [laws_markByteS.l0]
    rw [if_neg (by omega)]
    rw [List.take_of_length_le (by omega)] at ht
    obtain rfl : n = x.length := by omega
    rw [← ht]
  | succ d ih =>
    intro n k x hl hx hk ht
    obtain ⟨k, rfl⟩ : ∃ m, k = m + 1 := ⟨k - 1, by omega⟩
    have hlt : n < x.length := by omega
    simp only [laws_markByteS.l0]
    rw [if_pos (by omega), if_pos (by omega), wr1 hlt hl, wr2 hlt hl ha]
    have := ih (n + 1) k (x.set n (((a + n : Nat) : Int) % 256)) (by simpa using hl) (by simp; omega) (by omega) (by
      rw [List.take_succ_eq_append_getElem (by simp; omega), marks_succ]
      simp [List.take_set_of_le, ht])
    simpa using this
theorem markByteS_tells (a : Nat) (ha : a ≤ 1048576) (x : List Int) (hl : x.length ≤ 1048576) (k : Nat) (hk : x.length < k) : laws_markByteS.f k x (a : Int) = some (((a + x.length : Nat) : Int), marks a x.length) := by
  unfold laws_markByteS.f
  exact markByteS_loop a ha x.length 0 k x hl (by omega) hk rfl

theorem u8_bytes {l : List Int} (hwf : ∀ x ∈ l, (Lit.int .u8 x).wf = true) : ∀ x ∈ l, 0 ≤ x ∧ x ≤ 255 := fun x hx => by
  have := hwf x hx
  simp [Lit.wf] at this
  have e1 : IntKind.u8.min = 0 := by decide
  have e2 : IntKind.u8.max = 255 := by decide
  omega

theorem rdT_at {l : List S24} {n : Nat} (h : n < l.length) : rd_T24 l (n : Int) = l[n] := by unfold rd_T24; simp [List.getD_eq_getElem?_getD, h]
theorem rdT_set {l : List S24} {n : Nat} (h : n < l.length) (v : S24) : rd_T24 (l.set n v) (n : Int) = v := by
  rw [rdT_at (by simpa using h)]
  simp
theorem wr24 {n m : Nat} (h : n < m) (hm : m ≤ 100000000) : wrap64 ((n : Int) + 1) = ((n + 1 : Nat) : Int) := by
  unfold wrap64
  omega
theorem eqOp_same (a b c : Int) : laws_eqOp.f a b c a b c = some true := by simp [laws_eqOp.f]
theorem eqOpS_loop (l : List S24) (hl : l.length ≤ 100000000) (d : Nat) : ∀ (n k : Nat), n + d = l.length → d < k → laws_eqOpS.l0 k l l (n : Int) = some true := by
  induction d with
  | zero =>
    intro n k hn hk
    obtain ⟨k, rfl⟩ : ∃ m, k = m + 1 := ⟨k - 1, by omega⟩
    simp only [laws_eqOpS.l0]
    rw [if_neg (by omega)]
  | succ d ih =>
    intro n k hn hk
    obtain ⟨k, rfl⟩ : ∃ m, k = m + 1 := ⟨k - 1, by omega⟩
    have hlt : n < l.length := by omega
    simp only [laws_eqOpS.l0, eqOp_same, Option.bind_some]
    rw [if_pos (by omega), if_pos (by omega), if_pos (by omega), if_pos trivial, wr24 hlt hl]
    exact ih (n + 1) k (by omega) (by omega)
theorem eqOpS_tells (l : List S24) (hl : l.length ≤ 100000000) (k : Nat) (hk : l.length < k) : laws_eqOpS.f k l l = some true := by
  unfold laws_eqOpS.f
  rw [if_pos rfl]
  exact eqOpS_loop l hl l.length 0 k (by omega) hk
def opMark (c : Int) : S24 := ⟨c, c + 1, c + 2⟩
def opMarks (a n : Nat) : List S24 := (List.range n).map fun i => opMark ((a + 3 * i : Nat) : Int)
theorem opMarks_length (a n : Nat) : (opMarks a n).length = n := by simp [opMarks]
theorem opMarks_succ (a n : Nat) : opMarks a (n + 1) = opMarks a n ++ [opMark ((a + 3 * n : Nat) : Int)] := by simp [opMarks, List.range_succ]
theorem opMarks_at (a : Nat) {n i : Nat} (h : i < n) : rd_T24 (opMarks a n) (i : Int) = opMark ((a + 3 * i : Nat) : Int) := by
  rw [rdT_at (by rw [opMarks_length]; exact h)]
  simp [opMarks]
theorem markOpS_loop (a : Nat) (ha : a ≤ 1000) (d : Nat) : ∀ (n k : Nat) (x : List S24), x.length ≤ 100000000 → x.length = n + d → d < k → x.take n = opMarks a n →
    laws_markOpS.l0 k x ((a + 3 * n : Nat) : Int) (n : Int) = some (((a + 3 * x.length : Nat) : Int), opMarks a x.length) := by
  induction d with
  | zero =>
    intro n k x hl hx hk ht
    obtain ⟨k, rfl⟩ : ∃ m, k = m + 1 := ⟨k - 1, by omega⟩
    simp only [laws_markOpS.l0]
    rw [if_neg (by omega)]
    rw [List.take_of_length_le (by omega)] at ht
    obtain rfl : n = x.length := by omega
    rw [← ht]
  | succ d ih =>
    intro n k x hl hx hk ht
    obtain ⟨k, rfl⟩ : ∃ m, k = m + 1 := ⟨k - 1, by omega⟩
    have hlt : n < x.length := by omega
    have w1 : wrap64 (((a + 3 * n : Nat) : Int) + 1) = ((a + 3 * n : Nat) : Int) + 1 := by unfold wrap64; omega
    have w2 : wrap64 (((a + 3 * n : Nat) : Int) + 1 + 1) = ((a + 3 * n : Nat) : Int) + 2 := by unfold wrap64; omega
    have w3 : wrap64 (((a + 3 * n : Nat) : Int) + 2 + 1) = ((a + 3 * (n + 1) : Nat) : Int) := by unfold wrap64; omega
    simp only [laws_markOpS.l0, Option.bind_some, w1, w2, w3, wr24 hlt hl, Int.toNat_natCast]
    rw [if_pos (by omega), if_pos (by omega)]
    rw [rdT_set hlt]
    rw [rdT_set (by simpa using hlt)]
    rw [List.set_set, List.set_set]
    have hs : (x.set n (⟨((a + 3 * n : Nat) : Int), ((a + 3 * n : Nat) : Int) + 1, ((a + 3 * n : Nat) : Int) + 2⟩ : S24)).length = x.length := by simp
    have := ih (n + 1) k (x.set n (opMark ((a + 3 * n : Nat) : Int))) (by simpa using hl) (by simp; omega) (by omega) (by
      rw [opMarks_succ, List.take_succ_eq_append_getElem (by simpa using hlt), List.take_set_of_le (Nat.le_refl n), ht]
      simp)
    rw [List.length_set] at this
    exact this
theorem markOpS_tells (a : Nat) (ha : a ≤ 1000) (x : List S24) (hl : x.length ≤ 100000000) (k : Nat) (hk : x.length < k) : laws_markOpS.f k x (a : Int) = some (((a + 3 * x.length : Nat) : Int), opMarks a x.length) := by
  have := markOpS_loop a ha x.length 0 k x hl (by omega) hk rfl
  unfold laws_markOpS.f
  exact this
theorem heldOpS_loop (a : Nat) (ha : a ≤ 1000) (m : Nat) (hm : m ≤ 100000000) (d : Nat) : ∀ (n k : Nat), m = n + d → d < k →
    laws_heldOpS.l0 k (opMarks a m) ((a + 3 * n : Nat) : Int) (n : Int) = some ((a + 3 * m : Nat) : Int) := by
  induction d with
  | zero =>
    intro n k hx hk
    obtain ⟨k, rfl⟩ : ∃ m, k = m + 1 := ⟨k - 1, by omega⟩
    simp only [laws_heldOpS.l0, opMarks_length]
    rw [if_neg (by omega), show n = m by omega]
  | succ d ih =>
    intro n k hx hk
    obtain ⟨k, rfl⟩ : ∃ m, k = m + 1 := ⟨k - 1, by omega⟩
    have hlt : n < m := by omega
    have w1 : wrap64 (((a + 3 * n : Nat) : Int) + 1) = ((a + 3 * n : Nat) : Int) + 1 := by unfold wrap64; omega
    have w2 : wrap64 (((a + 3 * n : Nat) : Int) + 1 + 1) = ((a + 3 * n : Nat) : Int) + 2 := by unfold wrap64; omega
    have w3 : wrap64 (((a + 3 * n : Nat) : Int) + 2 + 1) = ((a + 3 * (n + 1) : Nat) : Int) := by unfold wrap64; omega
    simp only [laws_heldOpS.l0, opMarks_length, w1, w2, w3, wr24 hlt hm, opMarks_at a hlt, opMark]
    rw [if_pos (by omega), if_pos (by omega), if_pos trivial, if_pos trivial, if_pos trivial]
    exact ih (n + 1) k (by omega) (by omega)
theorem heldOpS_tells (a : Nat) (ha : a ≤ 1000) (m : Nat) (hm : m ≤ 100000000) (k : Nat) (hk : m < k) : laws_heldOpS.f k (opMarks a m) (a : Int) = some ((a + 3 * m : Nat) : Int) :=
  heldOpS_loop a ha m hm m 0 k (by omega) hk

theorem scanFrom_len (l : List Int) (hby : ∀ x ∈ l, 0 ≤ x ∧ x ≤ 255) : ∀ (n : Nat) (a : Int) (acc : List S24), 0 ≤ a → a ≤ (l.length : Int) → (acc.length : Int) ≤ 16 * a → ((scanFrom n l a acc).1.length : Int) ≤ 16 * (l.length : Int) := by
  intro n
  induction n with
  | zero => intro a acc h0 h1 h2; simp only [scanFrom]; omega
  | succ n ih =>
    intro a acc h0 h1 h2
    simp only [scanFrom]
    split
    · dsimp only; omega
    · split
      · dsimp only; omega
      · rename_i hm
        have hb := blockS_ok (drop_bytes hby a.toNat) (ops := (blockS (l.drop a.toNat)).1) (m := (blockS (l.drop a.toNat)).2) rfl
        rw [List.length_drop] at hb
        exact ih _ _ (by omega) (by omega) (by rw [List.length_append]; omega)
theorem scanS_len (l : List Int) (hby : ∀ x ∈ l, 0 ≤ x ∧ x ≤ 255) : (scanS l).1.length ≤ 16 * l.length := by
  unfold scanS
  split
  · simp
  · have := scanFrom_len l hby (l.length + 1) 0 [] (by omega) (by omega) (by simp)
    dsimp only
    omega
theorem FnExactScanOps (l : List Int) (_ : l.length ≤ maxLen) (_ : l.length * 1 ≤ 140737488351232) (hwf : ∀ x ∈ l, (Lit.int .u8 x).wf = true) : ∃ k, laws_FnExactScanOps.f k l = some true := by
  by_cases hb : (l.length : Int) > 1048576
  · exact ⟨0, by unfold laws_FnExactScanOps.f; rw [if_pos hb]⟩
  · have hl : l.length ≤ 1048576 := by omega
    have hby := u8_bytes hwf
    have hlen := scanS_len l hby
    obtain ⟨K, hK⟩ : ∃ K, K = 16 * l.length + 3 := ⟨_, rfl⟩
    refine ⟨K + 3, ?_⟩
    have ht := toByteS_tells l hl
    have hs : spec_ScanOps.f l = some (scanS l) := by unfold spec_ScanOps.f; rw [if_pos hby]
    have hi : impl_ScanOps.f l = some (scanS l) := by unfold impl_ScanOps.f; rw [if_pos hby]
    have he := eqOpS_tells (scanS l).1 (by omega)
    have heb := eqByteS_tells l hl
    have hm0 := markByteS_tells 1 (by omega) l (by omega) (K + 2) (by omega)
    have hm := markOpS_tells 1 (by omega) (scanS l).1 (by omega) (K + 1) (by omega)
    have hh := heldOpS_tells 1 (by omega) (scanS l).1.length (by omega)
    unfold laws_FnExactScanOps.f
    rw [if_neg hb, ht (K + 3) (by omega)]
    simp only [Option.bind_some, hs, hi, he (K + 3) (by omega), reduceIte]
    simp only [laws_FnExactScanOps.j0, bne_self_eq_false, Bool.false_eq_true, reduceIte, ht (K + 2) (by omega), Option.bind_some, heb (K + 2) (by omega)]
    rw [show (1 : Int) = ((1 : Nat) : Int) from rfl, hm0]
    simp only [Option.bind_some]
    rw [if_neg (by omega)]
    simp only [he (K + 2) (by omega), Option.bind_some, reduceIte, laws_FnExactScanOps.j1, bne_self_eq_false, Bool.false_eq_true]
    rw [show (1 : Int) = ((1 : Nat) : Int) from rfl, hm]
    simp only [Option.bind_some]
    rw [hh (K + 1) (by omega)]
    simp only [Option.bind_some]
    rw [if_neg (by omega)]
    simp only [reduceIte, ht (K + 1) (by omega), Option.bind_some, hi, he (K + 1) (by omega), laws_FnExactScanOps.j2, bne_self_eq_false, Bool.false_eq_true]
    rw [show (1 : Int) = ((1 : Nat) : Int) from rfl, hh K (by omega)]
    simp only [Option.bind_some]
    rw [if_neg (by omega)]
    simp

end Go.Proofs.Ytimlccgpeoaigaa.Pure
