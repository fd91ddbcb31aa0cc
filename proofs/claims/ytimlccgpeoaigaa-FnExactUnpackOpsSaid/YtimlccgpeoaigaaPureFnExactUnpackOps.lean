/- FnExactUnpackOps: the pure statement: the program's UnpackOps and the reference's answer alike, for all bytes, and nothing is shared. No condition. -/
import Derived.Test.YtimlccgpeoaigaaPFnExactUnpackOpsy
namespace Go.Proofs.Ytimlccgpeoaigaa.Pure
open Go.RowKit Go.Proofs.Ytimlccgpeoaigaa.PFnExactUnpackOps Go.Proofs.YtimlccgpeoaigaaW.PrintWords Go.Proofs.YtimlccgpeoaigaaW.PrintLast

theorem wr1 {n m : Nat} (h : n < m) (hm : m ≤ 1048576) : wrap64 ((n : Int) + 1) = ((n + 1 : Nat) : Int) := by
  unfold wrap64
  omega
theorem take_set (l acc : List Int) (n : Nat) (h : n < l.length) (hl : acc.length = l.length) (ht : acc.take n = l.take n) :
    (acc.set n (rd l n)).take (n + 1) = l.take (n + 1) := by
  rw [List.take_succ_eq_append_getElem (by simp; omega), List.take_succ_eq_append_getElem h]
  simp [ht, rd_at h, List.take_set_of_le]
theorem toByteS_loop (l : List Int) (hl : l.length ≤ 1048576) (d : Nat) : ∀ (n k : Nat) (acc : List Int), acc.length = l.length → n + d = l.length → d < k → acc.take n = l.take n →
    laws_toByteS.l0 k l acc (n : Int) = some l := by
  induction d with
  | zero =>
    intro n k acc ha hn hk ht
    obtain ⟨k, rfl⟩ : ∃ m, k = m + 1 := ⟨k - 1, by omega⟩
    simp only [laws_toByteS.l0]
    rw [if_neg (by omega)]
    rw [List.take_of_length_le (by omega), List.take_of_length_le (by omega)] at ht
    rw [ht]
  | succ d ih =>
    intro n k acc ha hn hk ht
    obtain ⟨k, rfl⟩ : ∃ m, k = m + 1 := ⟨k - 1, by omega⟩
    have hlt : n < l.length := by omega
    simp only [laws_toByteS.l0]
    rw [if_pos (by omega), if_pos (by omega), if_pos (by omega), wr1 hlt hl]
    exact ih (n + 1) k _ (by simp [ha]) (by omega) (by omega) (take_set l acc n hlt ha ht)
theorem toByteS_tells (l : List Int) (hl : l.length ≤ 1048576) (k : Nat) (hk : l.length < k) : laws_toByteS.f k l = some l := by
  unfold laws_toByteS.f
  rw [if_pos (by omega), if_pos (by omega)]
  exact toByteS_loop l hl l.length 0 k _ (by simp) (by omega) hk rfl

theorem eqByteS_loop (l : List Int) (hl : l.length ≤ 1048576) (d : Nat) : ∀ (n k : Nat), n + d = l.length → d < k → laws_eqByteS.l0 k l l (n : Int) = some true := by
  induction d with
  | zero =>
    intro n k hn hk
    obtain ⟨k, rfl⟩ : ∃ m, k = m + 1 := ⟨k - 1, by omega⟩
    simp only [laws_eqByteS.l0]
    rw [if_neg (by omega)]
  | succ d ih =>
    intro n k hn hk
    obtain ⟨k, rfl⟩ : ∃ m, k = m + 1 := ⟨k - 1, by omega⟩
    have hlt : n < l.length := by omega
    simp only [laws_eqByteS.l0]
    rw [if_pos (by omega), if_pos (by omega), if_pos (by omega), if_pos trivial, wr1 hlt hl]
    exact ih (n + 1) k (by omega) (by omega)
theorem eqByteS_tells (l : List Int) (hl : l.length ≤ 1048576) (k : Nat) (hk : l.length < k) : laws_eqByteS.f k l l = some true := by
  unfold laws_eqByteS.f
  rw [if_pos rfl]
  exact eqByteS_loop l hl l.length 0 k (by omega) hk

def marks (a n : Nat) : List Int := (List.range n).map fun i => ((a + i : Nat) : Int) % 256
theorem marks_length (a n : Nat) : (marks a n).length = n := by simp [marks]
theorem marks_at (a : Nat) {n i : Nat} (h : i < n) : rd (marks a n) (i : Int) = ((a + i : Nat) : Int) % 256 := by
  rw [rd_at (by rw [marks_length]; exact h)]
  simp [marks]
theorem marks_succ (a n : Nat) : marks a (n + 1) = marks a n ++ [((a + n : Nat) : Int) % 256] := by simp [marks, List.range_succ]
theorem wr2 {a n m : Nat} (h : n < m) (hm : m ≤ 1048576) (ha : a ≤ 1048576) : wrap64 (((a + n : Nat) : Int) + 1) = ((a + (n + 1) : Nat) : Int) := by
  unfold wrap64
  omega
theorem markByteS_loop (a : Nat) (ha : a ≤ 1048576) (d : Nat) : ∀ (n k : Nat) (x : List Int), x.length ≤ 1048576 → x.length = n + d → d < k → x.take n = marks a n →
    laws_markByteS.l0 k x ((a + n : Nat) : Int) (n : Int) = some (((a + x.length : Nat) : Int), marks a x.length) := by
  induction d with
  | zero =>
    intro n k x hl hx hk ht
    obtain ⟨k, rfl⟩ : ∃ m, k = m + 1 := ⟨k - 1, by omega⟩
    simp only [laws_markByteS.l0]
    rw [if_neg (by omega)]
    rw [List.take_of_length_le (by omega)] at ht
    obtain rfl : n = x.length := by omega
    rw [← ht]
  | succ d ih =>
    intro n k x hl hx hk ht
    obtain ⟨k, rfl⟩ : ∃ m, k = m + 1 := ⟨k - 1, by omega⟩
    have hlt : n < x.length := by omega
    simp only [laws_markByteS.l0]
    rw [if_pos (by omega), if_pos (by omega), wr1 hlt hl, wr2 hlt hl ha]
    have := ih (n + 1) k (x.set n (((a + n : Nat) : Int) % 256)) (by simpa using hl) (by simp; omega) (by omega) (by
      rw [List.take_succ_eq_append_getElem (by simp; omega), marks_succ]
      simp [List.take_set_of_le, ht])
    simpa using this
theorem markByteS_tells (a : Nat) (ha : a ≤ 1048576) (x : List Int) (hl : x.length ≤ 1048576) (k : Nat) (hk : x.length < k) : laws_markByteS.f k x (a : Int) = some (((a + x.length : Nat) : Int), marks a x.length) := by
  unfold laws_markByteS.f
  exact markByteS_loop a ha x.length 0 k x hl (by omega) hk rfl

theorem u8_bytes {l : List Int} (hwf : ∀ x ∈ l, (Lit.int .u8 x).wf = true) : ∀ x ∈ l, 0 ≤ x ∧ x ≤ 255 := fun x hx => by
  have := hwf x hx
  simp [Lit.wf] at this
  have e1 : IntKind.u8.min = 0 := by decide
  have e2 : IntKind.u8.max = 255 := by decide
  omega

theorem rdT_at {l : List S24} {n : Nat} (h : n < l.length) : rd_T24 l (n : Int) = l[n] := by unfold rd_T24; simp [List.getD_eq_getElem?_getD, h]
theorem rdT_set {l : List S24} {n : Nat} (h : n < l.length) (v : S24) : rd_T24 (l.set n v) (n : Int) = v := by
  rw [rdT_at (by simpa using h)]
  simp
theorem wr24 {n m : Nat} (h : n < m) (hm : m ≤ 100000000) : wrap64 ((n : Int) + 1) = ((n + 1 : Nat) : Int) := by
  unfold wrap64
  omega
theorem eqOp_same (a b c : Int) : laws_eqOp.f a b c a b c = some true := by simp [laws_eqOp.f]
theorem eqOpS_loop (l : List S24) (hl : l.length ≤ 100000000) (d : Nat) : ∀ (n k : Nat), n + d = l.length → d < k → laws_eqOpS.l0 k l l (n : Int) = some true := by
  induction d with
  | zero =>
    intro n k hn hk
    obtain ⟨k, rfl⟩ : ∃ m, k = m + 1 := ⟨k - 1, by omega⟩
    simp only [laws_eqOpS.l0]
    rw [if_neg (by omega)]
  | succ d ih =>
    intro n k hn hk
    obtain ⟨k, rfl⟩ : ∃ m, k = m + 1 := ⟨k - 1, by omega⟩
    have hlt : n < l.length := by omega
    simp only [laws_eqOpS.l0, eqOp_same, Option.bind_some]
    rw [if_pos (by omega), if_pos (by omega), if_pos (by omega), if_pos trivial, wr24 hlt hl]
    exact ih (n + 1) k (by omega) (by omega)
theorem eqOpS_tells (l : List S24) (hl : l.length ≤ 100000000) (k : Nat) (hk : l.length < k) : laws_eqOpS.f k l l = some true := by
  unfold laws_eqOpS.f
  rw [if_pos rfl]
  exact eqOpS_loop l hl l.length 0 k (by omega) hk
def opMark (c : Int) : S24 := ⟨c, c + 1, c + 2⟩
def opMarks (a n : Nat) : List S24 := (List.range n).map fun i => opMark ((a + 3 * i : Nat) : Int)
theorem opMarks_length (a n : Nat) : (opMarks a n).length = n := by simp [opMarks]
theorem opMarks_succ (a n : Nat) : opMarks a (n + 1) = opMarks a n ++ [opMark ((a + 3 * n : Nat) : Int)] := by simp [opMarks, List.range_succ]
theorem opMarks_at (a : Nat) {n i : Nat} (h : i < n) : rd_T24 (opMarks a n) (i : Int) = opMark ((a + 3 * i : Nat) : Int) := by
  rw [rdT_at (by rw [opMarks_length]; exact h)]
  simp [opMarks]
theorem markOpS_loop (a : Nat) (ha : a ≤ 1000) (d : Nat) : ∀ (n k : Nat) (x : List S24), x.length ≤ 100000000 → x.length = n + d → d < k → x.take n = opMarks a n →
    laws_markOpS.l0 k x ((a + 3 * n : Nat) : Int) (n : Int) = some (((a + 3 * x.length : Nat) : Int), opMarks a x.length) := by
  induction d with
  | zero =>
    intro n k x hl hx hk ht
    obtain ⟨k, rfl⟩ : ∃ m, k = m + 1 := ⟨k - 1, by omega⟩
    simp only [laws_markOpS.l0]
    rw [if_neg (by omega)]
    rw [List.take_of_length_le (by omega)] at ht
    obtain rfl : n = x.length := by omega
    rw [← ht]
  | succ d ih =>
    intro n k x hl hx hk ht
    obtain ⟨k, rfl⟩ : ∃ m, k = m + 1 := ⟨k - 1, by omega⟩
    have hlt : n < x.length := by omega
    have w1 : wrap64 (((a + 3 * n : Nat) : Int) + 1) = ((a + 3 * n : Nat) : Int) + 1 := by unfold wrap64; omega
    have w2 : wrap64 (((a + 3 * n : Nat) : Int) + 1 + 1) = ((a + 3 * n : Nat) : Int) + 2 := by unfold wrap64; omega
    have w3 : wrap64 (((a + 3 * n : Nat) : Int) + 2 + 1) = ((a + 3 * (n + 1) : Nat) : Int) := by unfold wrap64; omega
    simp only [laws_markOpS.l0, Option.bind_some, w1, w2, w3, wr24 hlt hl, Int.toNat_natCast]
    rw [if_pos (by omega), if_pos (by omega)]
    rw [rdT_set hlt]
    rw [rdT_set (by simpa using hlt)]
    rw [List.set_set, List.set_set]
    have hs : (x.set n (⟨((a + 3 * n : Nat) : Int), ((a + 3 * n : Nat) : Int) + 1, ((a + 3 * n : Nat) : Int) + 2⟩ : S24)).length = x.length := by simp
    have := ih (n + 1) k (x.set n (opMark ((a + 3 * n : Nat) : Int))) (by simpa using hl) (by simp; omega) (by omega) (by
      rw [opMarks_succ, List.take_succ_eq_append_getElem (by simpa using hlt), List.take_set_of_le (Nat.le_refl n), ht]
      simp)
    rw [List.length_set] at this
    exact this
theorem markOpS_tells (a : Nat) (ha : a ≤ 1000) (x : List S24) (hl : x.length ≤ 100000000) (k : Nat) (hk : x.length < k) : laws_markOpS.f k x (a : Int) = some (((a + 3 * x.length : Nat) : Int), opMarks a x.length) := by
  have := markOpS_loop a ha x.length 0 k x hl (by omega) hk rfl
  unfold laws_markOpS.f
  exact this

theorem heldOpS_loop (a : Nat) (ha : a ≤ 1000) (m : Nat) (hm : m ≤ 100000000) (d : Nat) : ∀ (n k : Nat), m = n + d → d < k →
    laws_heldOpS.l0 k (opMarks a m) ((a + 3 * n : Nat) : Int) (n : Int) = some ((a + 3 * m : Nat) : Int) := by
  induction d with
  | zero =>
    intro n k hx hk
    obtain ⟨k, rfl⟩ : ∃ m, k = m + 1 := ⟨k - 1, by omega⟩
    simp only [laws_heldOpS.l0, opMarks_length]
    rw [if_neg (by omega), show n = m by omega]
  | succ d ih =>
    intro n k hx hk
    obtain ⟨k, rfl⟩ : ∃ m, k = m + 1 := ⟨k - 1, by omega⟩
    have hlt : n < m := by omega
    have w1 : wrap64 (((a + 3 * n : Nat) : Int) + 1) = ((a + 3 * n : Nat) : Int) + 1 := by unfold wrap64; omega
    have w2 : wrap64 (((a + 3 * n : Nat) : Int) + 1 + 1) = ((a + 3 * n : Nat) : Int) + 2 := by unfold wrap64; omega
    have w3 : wrap64 (((a + 3 * n : Nat) : Int) + 2 + 1) = ((a + 3 * (n + 1) : Nat) : Int) := by unfold wrap64; omega
    simp only [laws_heldOpS.l0, opMarks_length, w1, w2, w3, wr24 hlt hm, opMarks_at a hlt, opMark]
    rw [if_pos (by omega), if_pos (by omega), if_pos trivial, if_pos trivial, if_pos trivial]
    exact ih (n + 1) k (by omega) (by omega)
theorem heldOpS_tells (a : Nat) (ha : a ≤ 1000) (m : Nat) (hm : m ≤ 100000000) (k : Nat) (hk : m < k) : laws_heldOpS.f k (opMarks a m) (a : Int) = some ((a + 3 * m : Nat) : Int) :=
  heldOpS_loop a ha m hm m 0 k (by omega) hk

def okO (x : S24) : Bool := opB x.f0 x.f1 x.f2

theorem l01Bytes_loop (l : List Int) (hl : l.length ≤ 1048576) (d : Nat) : ∀ (n k : Nat) (acc : List Int), n + d = l.length → d < k → acc = l.take n → spec_l01Bytes.l0 k l acc (n : Int) = some l := by
  induction d with
  | zero =>
    intro n k acc hn hk ha
    obtain ⟨k, rfl⟩ : ∃ m, k = m + 1 := ⟨k - 1, by omega⟩
    simp only [spec_l01Bytes.l0]
    rw [if_neg (by omega), ha, List.take_of_length_le (by omega)]
  | succ d ih =>
    intro n k acc hn hk ha
    obtain ⟨k, rfl⟩ : ∃ m, k = m + 1 := ⟨k - 1, by omega⟩
    have hlt : n < l.length := by omega
    have hlen : acc.length ≤ n := by rw [ha, List.length_take]; exact Nat.min_le_left _ _
    simp only [spec_l01Bytes.l0]
    rw [if_pos (by omega), if_pos (by omega), if_pos (by omega), wr1 hlt hl]
    refine ih (n + 1) k _ (by omega) (by omega) ?_
    rw [ha, rd_at hlt, List.take_succ_eq_append_getElem hlt]
theorem l01Bytes_tells (l : List Int) (hl : l.length ≤ 1048576) (k : Nat) (hk : l.length < k) : spec_l01Bytes.f k l = some l := by
  unfold spec_l01Bytes.f
  exact l01Bytes_loop l hl l.length 0 k [] (by omega) hk rfl
theorem join_loop (a l : List Int) (ha : a.length ≤ 1048576) (hl : l.length ≤ 1048576) (d : Nat) : ∀ (n k : Nat) (acc : List Int), n + d = l.length → d < k → acc = a ++ l.take n → spec_l01Join.l0 k l acc (n : Int) = some (a ++ l) := by
  induction d with
  | zero =>
    intro n k acc hn hk hacc
    obtain ⟨k, rfl⟩ : ∃ m, k = m + 1 := ⟨k - 1, by omega⟩
    simp only [spec_l01Join.l0]
    rw [if_neg (by omega), hacc, List.take_of_length_le (by omega)]
  | succ d ih =>
    intro n k acc hn hk hacc
    obtain ⟨k, rfl⟩ : ∃ m, k = m + 1 := ⟨k - 1, by omega⟩
    have hlt : n < l.length := by omega
    have hlen : acc.length ≤ a.length + n := by rw [hacc, List.length_append, List.length_take]; omega
    simp only [spec_l01Join.l0]
    rw [if_pos (by omega), if_pos (by omega), if_pos (by omega), wr1 hlt hl]
    refine ih (n + 1) k _ (by omega) (by omega) ?_
    rw [hacc, rd_at hlt, List.take_succ_eq_append_getElem hlt, List.append_assoc]
theorem join_tells (a l : List Int) (ha : a.length ≤ 1048576) (hl : l.length ≤ 1048576) (k : Nat) (hka : a.length < k) (hkl : l.length < k) : spec_l01Join.f k a l = some (a ++ l) := by
  unfold spec_l01Join.f
  rw [l01Bytes_tells a ha k hka]
  exact join_loop a l ha hl l.length 0 k a (by omega) hkl (by simp)

theorem specSumK_loop (l : List Int) (hl : l.length ≤ 9223372036854775807) (d : Nat) : ∀ (n k : Nat) (s : Int), n + d = l.length → d < k → spec_SumBytes.l0 k l s (n : Int) = some ((l.drop n).foldl sumStep s) := by
  induction d with
  | zero =>
    intro n k s hn hk
    obtain ⟨k, rfl⟩ : ∃ m, k = m + 1 := ⟨k - 1, by omega⟩
    simp only [spec_SumBytes.l0]
    rw [if_neg (by omega), List.drop_of_length_le (by omega)]
    rfl
  | succ d ih =>
    intro n k s hn hk
    obtain ⟨k, rfl⟩ : ∃ m, k = m + 1 := ⟨k - 1, by omega⟩
    have hlt : n < l.length := by omega
    simp only [spec_SumBytes.l0]
    rw [if_pos (by omega), if_pos (by omega), wrN hlt hl, List.drop_eq_getElem_cons hlt, List.foldl_cons, ih (n + 1) k _ (by omega) (by omega), rd_at hlt]
    rfl
theorem specSumK_tells (l : List Int) (hl : l.length ≤ 9223372036854775807) (k : Nat) (hk : l.length < k) : spec_SumBytes.f k l = some (sumOf l) := by
  unfold spec_SumBytes.f sumOf
  exact specSumK_loop l hl l.length 0 k 1 (by omega) hk

def pack (a t x : Int) : List Int := if opB a t x = true then (if 1 ≤ a ∧ a ≤ 3 then [(wrap64 ((wrap64 (5 * a)) + t)) % 256, x % 256] else [(wrap64 ((wrap64 (5 * a)) + t)) % 256]) else []
theorem pack_length (a t x : Int) : (pack a t x).length ≤ 2 := by unfold pack; (repeat' split) <;> simp
theorem pack_pos {a t x : Int} (h : opB a t x = true) : 1 ≤ (pack a t x).length := by unfold pack; rw [if_pos h]; split <;> simp
theorem pack_bytes (a t x : Int) : ∀ y ∈ pack a t x, 0 ≤ y ∧ y ≤ 255 := by
  intro y hy
  unfold pack at hy
  (repeat' split at hy) <;> simp at hy <;> (try (rcases hy with rfl | rfl <;> omega)) <;> (try (subst hy; omega))
theorem specPack_tells (k : Nat) (hk : 0 < k) (a t x : Int) : spec_PackOp.f k a t x = some (pack a t x) := by
  unfold spec_PackOp.f pack
  simp only [specOpOk_tells k hk, specHasX_tells, Option.bind_some, decide_eq_true_eq]
  by_cases h : opB a t x = true <;> by_cases h' : 1 ≤ a ∧ a ≤ 3 <;> simp [h, h']
theorem implPack_tells (k : Nat) (hk : 0 < k) (a t x : Int) : impl_PackOp.f k a t x = some (pack a t x) := by
  unfold impl_PackOp.f pack
  simp only [implOpOk_tells k hk, implHasX_tells, Option.bind_some, decide_eq_true_eq]
  by_cases h : opB a t x = true <;> by_cases h' : 1 ≤ a ∧ a ≤ 3 <;> simp [h, h']
def packO (x : S24) : List Int := pack x.f0 x.f1 x.f2
def bytesOps (l : List S24) : List Int := l.flatMap packO
theorem bytesOps_len : ∀ l : List S24, (bytesOps l).length ≤ 2 * l.length
  | [] => by simp [bytesOps]
  | x :: l => by
    have h1 := pack_length x.f0 x.f1 x.f2
    have h2 := bytesOps_len l
    simp only [bytesOps, List.flatMap_cons, List.length_append, List.length_cons, packO] at *
    omega
theorem bytesOps_ge : ∀ l : List S24, l.all okO = true → l.length ≤ (bytesOps l).length
  | [], _ => by simp [bytesOps]
  | x :: l, h => by
    simp only [List.all_cons, Bool.and_eq_true] at h
    have h1 := pack_pos (a := x.f0) (t := x.f1) (x := x.f2) h.1
    have h2 := bytesOps_ge l h.2
    simp only [bytesOps, List.flatMap_cons, List.length_append, List.length_cons, packO] at *
    omega
theorem bytesOps_bytes (l : List S24) : ∀ y ∈ bytesOps l, 0 ≤ y ∧ y ≤ 255 := by
  intro y hy
  obtain ⟨x, _, hx⟩ := List.mem_flatMap.1 hy
  exact pack_bytes _ _ _ y hx
def sealB (b : List Int) : List Int := b ++ [(sumOf b / 256) % 256, sumOf b % 256]
def blkBody (l : List S24) : List Int := [(l.length : Int) % 256, ((bytesOps l).length : Int) % 256] ++ bytesOps l
def blk (l : List S24) : List Int := sealB (blkBody l)
theorem blkBody_bytes (l : List S24) : ∀ y ∈ blkBody l, 0 ≤ y ∧ y ≤ 255 := by
  intro y hy
  simp only [blkBody, List.mem_append, List.mem_cons, List.not_mem_nil, or_false] at hy
  rcases hy with (rfl | rfl) | hy
  · omega
  · omega
  · exact bytesOps_bytes l y hy
theorem blkBody_len (l : List S24) : (blkBody l).length = 2 + (bytesOps l).length := by simp [blkBody]; omega
theorem blk_len (l : List S24) : (blk l).length = 4 + (bytesOps l).length := by simp [blk, sealB, blkBody_len]; omega
def packAll : Nat → List S24 → List Int
  | 0, _ => []
  | n + 1, l => if l.length = 0 then [] else blk (l.take 16) ++ packAll n (l.drop 16)
theorem packAll_enough : ∀ (n m : Nat) (l : List S24), l.length ≤ n → l.length ≤ m → packAll n l = packAll m l
  | 0, m, l, h, _ => by
    cases m with
    | zero => rfl
    | succ m => simp only [packAll]; rw [if_pos (by omega)]
  | n + 1, 0, l, _, h => by simp only [packAll]; rw [if_pos (by omega)]
  | n + 1, m + 1, l, h1, h2 => by
    simp only [packAll]
    by_cases h0 : l.length = 0
    · rw [if_pos h0, if_pos h0]
    · rw [if_neg h0, if_neg h0, packAll_enough n m (l.drop 16) (by rw [List.length_drop]; omega) (by rw [List.length_drop]; omega)]
def packL (l : List S24) : List Int := packAll l.length l
theorem packL_nil {l : List S24} (h : l.length = 0) : packL l = [] := by unfold packL; rw [h]; rfl
theorem packL_cons {l : List S24} (h : l.length ≠ 0) : packL l = blk (l.take 16) ++ packL (l.drop 16) := by
  unfold packL
  obtain ⟨n, hn⟩ : ∃ n, l.length = n + 1 := ⟨l.length - 1, by omega⟩
  rw [hn]
  simp only [packAll]
  rw [if_neg h, packAll_enough n (l.drop 16).length (l.drop 16) (by rw [List.length_drop]; omega) (Nat.le_refl _)]
theorem all_split (l : List S24) (n : Nat) : l.all okO = ((l.take n).all okO && (l.drop n).all okO) := by rw [← List.all_append, List.take_append_drop]
theorem packL_ge (n : Nat) : ∀ l : List S24, l.length ≤ n → l.all okO = true → l.length ≤ (packL l).length := by
  induction n with
  | zero => intro l h _; omega
  | succ n ih =>
    intro l h ha
    by_cases h0 : l.length = 0
    · omega
    · rw [all_split l 16, Bool.and_eq_true] at ha
      rw [packL_cons h0, List.length_append, blk_len]
      have h1 := bytesOps_ge _ ha.1
      have h2 := ih (l.drop 16) (by rw [List.length_drop]; omega) ha.2
      rw [List.length_take] at h1
      rw [List.length_drop] at h2
      omega
theorem bytesOps_snoc (l : List S24) (n : Nat) (h : n < l.length) : bytesOps (l.take (n + 1)) = bytesOps (l.take n) ++ packO l[n] := by
  rw [List.take_succ_eq_append_getElem h]
  unfold bytesOps
  rw [List.flatMap_append]
  simp only [List.flatMap_cons, List.flatMap_nil, List.append_nil]

theorem mn_eq (a b : Int) : mn a b = if b < a then b else a := rfl
theorem implPacked_loop (x0 seg : List S24) (x3 : List Int) (x4 : Int) (hs : seg.length ≤ 16) (d : Nat) : ∀ (n k : Nat), n + d = seg.length → d + 5000 < k →
    impl_packed.l1 k x0 x3 x4 (bytesOps (seg.take n)) seg (seg.length : Int) (n : Int) = impl_packed.l1 (k - d) x0 x3 x4 (bytesOps seg) seg (seg.length : Int) (seg.length : Int) := by
  induction d with
  | zero =>
    intro n k hn hk
    rw [show n = seg.length by omega, List.take_length]
    rfl
  | succ d ih =>
    intro n k hn hk
    obtain ⟨k, rfl⟩ : ∃ m, k = m + 1 := ⟨k - 1, by omega⟩
    have hlt : n < seg.length := by omega
    have hb := bytesOps_len (seg.take n)
    have hp := pack_length seg[n].f0 seg[n].f1 seg[n].f2
    rw [List.length_take] at hb
    rw [show k + 1 - (d + 1) = k - d by omega]
    have h2 := ih (n + 1) k (by omega) (by omega)
    rw [bytesOps_snoc seg n hlt] at h2
    rw [impl_packed.l1]
    rw [if_pos (by omega), if_pos (by omega), if_pos (by omega), rdT_at hlt, implPack_tells k (by omega)]
    simp only [Option.bind_some]
    rw [if_pos (by omega), show wrap64 ((n : Int) + 1) = ((n + 1 : Nat) : Int) by unfold wrap64; omega]
    exact h2
theorem implPacked_tells : ∀ (d : Nat) (x0 : List S24) (x3 : List Int) (k : Nat), x0.length ≤ d → x3.length + 36 * x0.length ≤ 100000000 → 20 * x0.length + 5100 < k → impl_packed.l0 k x0 x3 = some (x3 ++ packL x0) := by
  intro d
  induction d with
  | zero =>
    intro x0 x3 k hd hx hk
    obtain ⟨k, rfl⟩ : ∃ m, k = m + 1 := ⟨k - 1, by omega⟩
    rw [impl_packed.l0, if_neg (by omega), packL_nil (by omega), List.append_nil]
  | succ d ih =>
    intro x0 x3 k hd hx hk
    by_cases h0 : x0.length = 0
    · exact ih x0 x3 k (by omega) hx hk
    obtain ⟨k, rfl⟩ : ∃ m, k = m + 1 := ⟨k - 1, by omega⟩
    have hmn : (mn 16 (x0.length : Int)).toNat = min 16 x0.length ∧ 0 ≤ mn 16 (x0.length : Int) ∧ mn 16 (x0.length : Int) ≤ 16 ∧ mn 16 (x0.length : Int) ≤ x0.length := by
      rw [mn_eq]
      split <;> omega
    obtain ⟨m1, m2, m3, m4⟩ := hmn
    have htk : x0.take (min 16 x0.length) = x0.take 16 := by rw [List.take_eq_take_iff]; omega
    have hdr : x0.drop (min 16 x0.length) = x0.drop 16 := by
      by_cases hq : 16 ≤ x0.length
      · rw [Nat.min_eq_left hq]
      · rw [Nat.min_eq_right (by omega), List.drop_of_length_le (Nat.le_refl _), List.drop_of_length_le (by omega)]
    have hsl : (x0.take 16).length = min 16 x0.length := List.length_take
    have hm4 : mn 16 (x0.length : Int) = ((x0.take 16).length : Int) := by omega
    have hb := bytesOps_len (x0.take 16)
    have hbl := blk_len (x0.take 16)
    rw [impl_packed.l0, if_pos (by omega), if_pos m2, if_pos m4]
    simp only [Option.bind_some]
    rw [m1, htk]
    have h1 := implPacked_loop x0 (x0.take 16) x3 (mn 16 (x0.length : Int)) (by omega) (x0.take 16).length 0 k (by omega) (by omega)
    have e0 : bytesOps ((x0.take 16).take 0) = [] := by simp [bytesOps]
    rw [e0] at h1
    rw [show ((0 : Nat) : Int) = 0 from rfl] at h1
    rw [h1]
    obtain ⟨q, hq⟩ : ∃ q, k - (x0.take 16).length = q + 1 := ⟨k - (x0.take 16).length - 1, by omega⟩
    rw [hq, impl_packed.l1, if_neg (by omega)]
    simp only [Option.bind_some, List.length_cons, List.length_nil]
    rw [if_pos (by omega)]
    have hbody : ([(mn 16 (x0.length : Int)) % 256, ((bytesOps (x0.take 16)).length : Int) % 256] : List Int) ++ bytesOps (x0.take 16) = blkBody (x0.take 16) := by rw [hm4]; rfl
    rw [hbody, sealed_tells _ (by rw [blkBody_len]; omega) q (by rw [blkBody_len]; omega)]
    simp only [Option.bind_some]
    rw [show blkBody (x0.take 16) ++ [sumOf (blkBody (x0.take 16)) / 256 % 256, sumOf (blkBody (x0.take 16)) % 256] = blk (x0.take 16) from rfl]
    rw [if_pos (by rw [hbl]; omega), if_pos m2, if_pos m4, m1, hdr]
    have hdl : (x0.drop 16).length = x0.length - 16 := List.length_drop
    rw [ih (x0.drop 16) _ q (by omega) (by rw [List.length_append, hbl]; omega) (by omega), packL_cons h0, List.append_assoc]

/-- What the reference's PackOps answers from operation i on, with acc written. -/
def packsFrom (l : List S24) (acc : List Int) : List Int × Bool := if l.all okO = true ∧ acc.length + (packL l).length ≤ 4000 then (acc ++ packL l, true) else ([], false)
theorem specPacks_inner (l : List S24) (hl : l.length ≤ 1048576) (acc : List Int) (i : Nat) (seg : List S24) (hseg : seg = (l.drop i).take 16) (d : Nat) : ∀ (n k : Nat), n + d = seg.length → i + seg.length ≤ l.length → d + 6000 < k → ∀ fin,
    (∀ k', 6000 < k' → k - d ≤ k' → spec_PackOps.l1 k' l acc (i : Int) ((i + seg.length : Nat) : Int) (bytesOps seg) ((i + seg.length : Nat) : Int) = some fin) →
    spec_PackOps.l1 k l acc (i : Int) ((i + seg.length : Nat) : Int) (bytesOps (seg.take n)) ((i + n : Nat) : Int) = some (if (seg.drop n).all okO = true then fin else ([], false)) := by
  induction d with
  | zero =>
    intro n k hn hi hk fin hf
    obtain rfl : n = seg.length := by omega
    rw [List.take_length, List.drop_length]
    simp only [List.all_nil, if_true]
    exact hf k (by omega) (by omega)
  | succ d ih =>
    intro n k hn hi hk fin hf
    obtain ⟨k, rfl⟩ : ∃ m, k = m + 1 := ⟨k - 1, by omega⟩
    have hlt : n < seg.length := by omega
    have hb := bytesOps_len (seg.take n)
    have hp := pack_length seg[n].f0 seg[n].f1 seg[n].f2
    rw [List.length_take] at hb
    have hs16 : seg.length ≤ 16 := by rw [hseg, List.length_take]; omega
    have hrd : rd_T24 l ((i + n : Nat) : Int) = seg[n] := by
      rw [rdT_at (by omega)]
      simp only [hseg, List.getElem_take, List.getElem_drop]
    rw [spec_PackOps.l1, if_pos (by omega), if_pos (by omega), if_pos (by omega), hrd, specOpOk_tells k (by omega)]
    simp only [Option.bind_some]
    rw [List.drop_eq_getElem_cons hlt, List.all_cons]
    by_cases ho : opB seg[n].f0 seg[n].f1 seg[n].f2 = true
    · rw [if_pos ho, specPack_tells k (by omega)]
      simp only [Option.bind_some]
      rw [join_tells _ _ (by omega) (by omega) k (by omega) (by omega)]
      simp only [Option.bind_some]
      have h2 := ih (n + 1) k (by omega) hi (by omega) fin (fun k' h1 h2 => hf k' h1 (by omega))
      rw [bytesOps_snoc seg n hlt] at h2
      rw [show wrap64 (((i + n : Nat) : Int) + 1) = ((i + (n + 1) : Nat) : Int) by unfold wrap64; omega]
      have e : okO seg[n] = true := ho
      rw [e, Bool.true_and]
      exact h2
    · rw [if_neg ho]
      have e : okO seg[n] = false := by simpa [okO] using ho
      rw [e]
      simp
theorem specPacks_tells (l : List S24) (hl : l.length ≤ 1048576) : ∀ (d i : Nat) (acc : List Int) (k : Nat), l.length ≤ i + d → i ≤ 1048600 → acc.length ≤ 4000 → 20 * d + 6100 < k → spec_PackOps.l0 k l acc (i : Int) = some (packsFrom (l.drop i) acc) := by
  intro d
  induction d with
  | zero =>
    intro i acc k hd hi ha hk
    obtain ⟨k, rfl⟩ : ∃ m, k = m + 1 := ⟨k - 1, by omega⟩
    rw [spec_PackOps.l0, if_neg (by omega), List.drop_of_length_le (by omega)]
    simp [packsFrom, packL, packAll, ha]
  | succ d ih =>
    intro i acc k hd hi ha hk
    by_cases h0 : l.length ≤ i
    · exact ih i acc k (by omega) hi ha (by omega)
    obtain ⟨k, rfl⟩ : ∃ m, k = m + 2 := ⟨k - 2, by omega⟩
    obtain ⟨seg, hseg⟩ : ∃ seg, seg = (l.drop i).take 16 := ⟨_, rfl⟩
    have hsl : seg.length = min 16 (l.length - i) := by rw [hseg, List.length_take, List.length_drop]
    have he : spec_PackOps.l0 (k + 2) l acc (i : Int) = spec_PackOps.j1 (k + 1) l acc (i : Int) ((i + seg.length : Nat) : Int) := by
      rw [spec_PackOps.l0, if_pos (by omega), show wrap64 ((i : Int) + 16) = (i : Int) + 16 by unfold wrap64; omega]
      by_cases hq : (i : Int) + 16 > (l.length : Int)
      · rw [if_pos hq, show ((i + seg.length : Nat) : Int) = (l.length : Int) by omega]
      · rw [if_neg hq, show ((i + seg.length : Nat) : Int) = (i : Int) + 16 by omega]
    rw [he, spec_PackOps.j1]
    have hdrop : (l.drop i).drop 16 = l.drop (i + 16) := by rw [List.drop_drop]
    have hsplit : (l.drop i).all okO = (seg.all okO && (l.drop (i + 16)).all okO) := by rw [all_split (l.drop i) 16, ← hseg, hdrop]
    have hpk : packL (l.drop i) = blk seg ++ packL (l.drop (i + 16)) := by rw [packL_cons (by rw [List.length_drop]; omega), ← hseg, hdrop]
    have hb := bytesOps_len seg
    have hbl := blk_len seg
    have hin := specPacks_inner l hl acc i seg hseg seg.length 0 k (by omega) (by omega) (by omega)
      (if 4000 < (acc.length : Int) + ((blk seg).length : Int) then ([], false) else packsFrom (l.drop (i + 16)) (acc ++ blk seg)) (by
      intro k' h1 h2
      obtain ⟨k', rfl⟩ : ∃ m, k' = m + 1 := ⟨k' - 1, by omega⟩
      rw [spec_PackOps.l1, if_neg (by omega)]
      have w1 : wrap64 (((i + seg.length : Nat) : Int) - (i : Int)) = (seg.length : Int) := by unfold wrap64; omega
      rw [w1, join_tells _ _ (by simp) (by omega) k' (by simp; omega) (by omega)]
      simp only [Option.bind_some]
      rw [show ([(seg.length : Int) % 256, ((bytesOps seg).length : Int) % 256] : List Int) ++ bytesOps seg = blkBody seg from rfl, specSumK_tells _ (by rw [blkBody_len]; omega) k' (by rw [blkBody_len]; omega)]
      have hsum := sumOf_lt _ (blkBody_bytes seg)
      have w2 : wrap64 (Int.tdiv (sumOf (blkBody seg)) 256) % 256 = sumOf (blkBody seg) / 256 % 256 := by
        rw [Int.tdiv_eq_ediv_of_nonneg hsum.1]
        unfold wrap64
        omega
      have w3 : Int.tmod (sumOf (blkBody seg)) 256 % 256 = sumOf (blkBody seg) % 256 := by
        rw [Int.tmod_eq_emod_of_nonneg hsum.1]
        omega
      have w4 : wrap64 (4000 - (acc.length : Int)) = 4000 - (acc.length : Int) := by unfold wrap64; omega
      simp only [Option.bind_some, w2, w3, w4]
      rw [if_pos (by rw [blkBody_len]; simp; omega)]
      rw [show blkBody seg ++ [sumOf (blkBody seg) / 256 % 256, sumOf (blkBody seg) % 256] = blk seg from rfl]
      by_cases hq : 4000 < (acc.length : Int) + ((blk seg).length : Int)
      · rw [if_pos hq, if_pos (by omega)]
      · rw [if_neg hq, if_neg (by omega), join_tells _ _ (by omega) (by omega) k' (by omega) (by omega)]
        simp only [Option.bind_some]
        rw [show wrap64 ((i : Int) + 16) = ((i + 16 : Nat) : Int) by unfold wrap64; omega]
        exact ih (i + 16) (acc ++ blk seg) k' (by omega) (by omega) (by rw [List.length_append]; omega) (by omega))
    have e0 : bytesOps (seg.take 0) = [] := by simp [bytesOps]
    rw [e0, List.drop_zero, show ((i + 0 : Nat) : Int) = (i : Int) from rfl] at hin
    rw [hin]
    congr 1
    unfold packsFrom
    rw [hsplit, hpk, List.length_append, List.length_append, List.append_assoc]
    cases h1 : seg.all okO
    · simp
    · by_cases hq : 4000 < (acc.length : Int) + ((blk seg).length : Int)
      · rw [if_pos rfl, if_pos hq, if_neg (by omega)]
      · rw [if_pos rfl, if_neg hq, Bool.true_and, Nat.add_assoc]
theorem specPackOps_tells (l : List S24) (hl : l.length ≤ 1048576) (k : Nat) (hk : 20 * l.length + 6100 < k) : spec_PackOps.f k l = some (if l.all okO = true ∧ (packL l).length ≤ 4000 then (packL l, true) else ([], false)) := by
  unfold spec_PackOps.f
  have := specPacks_tells l hl l.length 0 [] k (by omega) (by omega) (by simp) hk
  rw [show (0 : Int) = ((0 : Nat) : Int) from rfl, this, List.drop_zero]
  unfold packsFrom
  simp

theorem scanFrom_len (l : List Int) (hby : ∀ x ∈ l, 0 ≤ x ∧ x ≤ 255) : ∀ (n : Nat) (a : Int) (acc : List S24), 0 ≤ a → a ≤ (l.length : Int) → (acc.length : Int) ≤ 16 * a → ((scanFrom n l a acc).1.length : Int) ≤ 16 * (l.length : Int) := by
  intro n
  induction n with
  | zero => intro a acc h0 h1 h2; simp only [scanFrom]; omega
  | succ n ih =>
    intro a acc h0 h1 h2
    simp only [scanFrom]
    split
    · dsimp only; omega
    · split
      · dsimp only; omega
      · rename_i hm
        have hb := blockS_ok (drop_bytes hby a.toNat) (ops := (blockS (l.drop a.toNat)).1) (m := (blockS (l.drop a.toNat)).2) rfl
        rw [List.length_drop] at hb
        exact ih _ _ (by omega) (by omega) (by rw [List.length_append]; omega)
theorem scanS_len (l : List Int) (hby : ∀ x ∈ l, 0 ≤ x ∧ x ≤ 255) : (scanS l).1.length ≤ 16 * l.length := by
  unfold scanS
  split
  · simp
  · have := scanFrom_len l hby (l.length + 1) 0 [] (by omega) (by omega) (by simp)
    dsimp only
    omega

theorem same_loop (a b : List Int) (hl : a.length ≤ 1048576) (he : a.length = b.length) (d : Nat) : ∀ (n k : Nat), n + d = a.length → d < k → spec_l01Same.l0 k a b (n : Int) = some (decide (a.drop n = b.drop n)) := by
  induction d with
  | zero =>
    intro n k hn hk
    obtain ⟨k, rfl⟩ : ∃ m, k = m + 1 := ⟨k - 1, by omega⟩
    simp only [spec_l01Same.l0]
    rw [if_neg (by omega), List.drop_of_length_le (by omega), List.drop_of_length_le (by omega)]
    simp
  | succ d ih =>
    intro n k hn hk
    obtain ⟨k, rfl⟩ : ∃ m, k = m + 1 := ⟨k - 1, by omega⟩
    have hlt : n < a.length := by omega
    have hltb : n < b.length := by omega
    simp only [spec_l01Same.l0]
    rw [if_pos (by omega), if_pos (by omega), if_pos (by omega), rd_at hlt, rd_at hltb, List.drop_eq_getElem_cons hlt, List.drop_eq_getElem_cons hltb]
    by_cases hq : a[n] = b[n]
    · rw [if_pos hq, wr1 hlt hl, ih (n + 1) k (by omega) (by omega), Option.some.injEq, decide_eq_decide, hq, List.cons.injEq]
      simp
    · rw [if_neg hq, Option.some.injEq, eq_comm, decide_eq_false_iff_not, List.cons.injEq]
      exact fun h => hq h.1
theorem same_tells (a b : List Int) (hl : a.length ≤ 1048576) (k : Nat) (hk : a.length < k) : spec_l01Same.f k a b = some (decide (a = b)) := by
  unfold spec_l01Same.f
  by_cases he : a.length = b.length
  · rw [if_pos (by omega)]
    exact same_loop a b hl he a.length 0 k (by omega) hk
  · rw [if_neg (by omega), Option.some.injEq, eq_comm, decide_eq_false_iff_not]
    exact fun h => he (congrArg List.length h)
theorem unpack_ok {l : List Int} {a u1 u2 u3 u4 : Int} (h : unpack l a = (u1, u2, u3, u4)) (hn : ¬ u4 < 0) : opB u1 u2 u3 = true := by
  unfold unpack at h
  (repeat' split at h) <;> simp only [Prod.mk.injEq] at h <;> obtain ⟨rfl, rfl, rfl, rfl⟩ := h <;> first | (exfalso; omega) | assumption
theorem readOps_ok : ∀ (n : Nat) (l : List Int) (a : Int) (acc ops : List S24) (b : Int), readOps n l a acc = some (ops, b) → acc.all okO = true → ops.all okO = true := by
  intro n
  induction n with
  | zero =>
    intro l a acc ops b h ha
    simp only [readOps, Option.some.injEq, Prod.mk.injEq] at h
    obtain ⟨rfl, rfl⟩ := h
    exact ha
  | succ n ih =>
    intro l a acc ops b h ha
    obtain ⟨u1, u2, u3, u4, hu⟩ : ∃ u1 u2 u3 u4, unpack l a = (u1, u2, u3, u4) := ⟨_, _, _, _, rfl⟩
    by_cases hn : u4 < 0
    · rw [readOps_fail hu hn] at h
      cases h
    · rw [readOps_step hu hn] at h
      refine ih l u4 _ ops b h ?_
      rw [List.all_append, ha]
      simp [okO, unpack_ok hu hn]
theorem blockS_all (l : List Int) : (blockS l).1.all okO = true := by
  unfold blockS
  split
  · rfl
  · split
    · rfl
    · split
      · rfl
      · split
        · rfl
        · unfold blockEnd
          split
          · rfl
          · rename_i hr
            split
            · exact readOps_ok _ _ _ _ _ _ hr rfl
            · rfl
theorem scanFrom_all : ∀ (n : Nat) (l : List Int) (a : Int) (acc : List S24), acc.all okO = true → (scanFrom n l a acc).1.all okO = true := by
  intro n
  induction n with
  | zero => intro l a acc h; exact h
  | succ n ih =>
    intro l a acc h
    simp only [scanFrom]
    split
    · exact h
    · split
      · exact h
      · exact ih _ _ _ (by rw [List.all_append, h, blockS_all]; rfl)
theorem scanS_all (l : List Int) : (scanS l).1.all okO = true := by
  unfold scanS
  split
  · rfl
  · exact scanFrom_all _ _ _ _ rfl
def unpackB (l : List Int) : List S24 × Bool := if (scanS l).2.2 = 0 then (if packL (scanS l).1 = l then ((scanS l).1, true) else ([], false)) else ([], false)
theorem scanS_short {l : List Int} (h : (scanS l).2.2 = 0) : l.length ≤ 4000 := by
  unfold scanS at h
  split at h
  · simp at h
  · omega
theorem packL_bytes (n : Nat) : ∀ l : List S24, l.length ≤ n → ∀ y ∈ packL l, 0 ≤ y ∧ y ≤ 255 := by
  induction n with
  | zero => intro l h y hy; rw [packL_nil (by omega)] at hy; cases hy
  | succ n ih =>
    intro l h y hy
    by_cases h0 : l.length = 0
    · rw [packL_nil h0] at hy
      cases hy
    · rw [packL_cons h0, List.mem_append] at hy
      rcases hy with hy | hy
      · have hs := sumOf_lt _ (blkBody_bytes (l.take 16))
        simp only [blk, sealB, List.mem_append, List.mem_cons, List.not_mem_nil, or_false] at hy
        rcases hy with hy | rfl | rfl
        · exact blkBody_bytes _ y hy
        · omega
        · omega
      · exact ih (l.drop 16) (by rw [List.length_drop]; omega) y hy
theorem implUnpackOps_tells (l : List Int) (hby : ∀ x ∈ l, 0 ≤ x ∧ x ≤ 255) (k : Nat) (hk : 1400000 < k) : impl_UnpackOps.f k l = some (unpackB l) := by
  unfold impl_UnpackOps.f impl_ScanOps.f unpackB
  rw [if_pos hby]
  simp only [Option.bind_some]
  by_cases h0 : (scanS l).2.2 = 0
  · have hl := scanS_short h0
    have hlen := scanS_len l hby
    rw [if_pos h0, if_pos h0]
    unfold impl_packed.f
    rw [implPacked_tells _ _ [] k (Nat.le_refl _) (by simp; omega) (by omega)]
    simp only [Option.bind_some, List.nil_append]
    rw [bytesEq_tells (packL_bytes _ _ (Nat.le_refl _)) hby]
    simp only [Option.bind_some, decide_eq_true_eq]
    split <;> rfl
  · rw [if_neg h0, if_neg h0]
theorem specUnpackOps_tells (l : List Int) (hby : ∀ x ∈ l, 0 ≤ x ∧ x ≤ 255) (k : Nat) (hk : 1400000 < k) : spec_UnpackOps.f k l = some (unpackB l) := by
  unfold spec_UnpackOps.f spec_ScanOps.f unpackB
  rw [if_pos hby]
  simp only [Option.bind_some]
  by_cases h0 : (scanS l).2.2 = 0
  · have hl := scanS_short h0
    have hlen := scanS_len l hby
    rw [if_pos h0, if_pos h0, specPackOps_tells _ (by omega) k (by omega)]
    simp only [Option.bind_some]
    by_cases h1 : (packL (scanS l).1).length ≤ 4000
    · have hp : (if (scanS l).1.all okO = true ∧ (packL (scanS l).1).length ≤ 4000 then (packL (scanS l).1, true) else (([] : List Int), false)) = (packL (scanS l).1, true) := if_pos ⟨scanS_all l, h1⟩
      rw [hp]
      simp only [reduceIte]
      rw [same_tells _ _ (by omega) k (by omega)]
      simp only [Option.bind_some, decide_eq_true_eq]
      split <;> rfl
    · have hp : (if (scanS l).1.all okO = true ∧ (packL (scanS l).1).length ≤ 4000 then (packL (scanS l).1, true) else (([] : List Int), false)) = ([], false) := if_neg (fun q => h1 q.2)
      have hne : ¬ packL (scanS l).1 = l := by
        intro q
        rw [q] at h1
        omega
      rw [hp, if_neg hne]
      simp
  · rw [if_neg h0, if_neg h0]
theorem unpackB_len (l : List Int) (hby : ∀ x ∈ l, 0 ≤ x ∧ x ≤ 255) : (unpackB l).1.length ≤ 16 * l.length := by
  have := scanS_len l hby
  unfold unpackB
  (repeat' split) <;> simp <;> omega
theorem FnExactUnpackOps (l : List Int) (_ : l.length ≤ maxLen) (_ : l.length * 1 ≤ 140737488351232) (hwf : ∀ x ∈ l, (Lit.int .u8 x).wf = true) : ∃ k, laws_FnExactUnpackOps.f k l = some true := by
  by_cases hb : (l.length : Int) > 1048576
  · exact ⟨0, by unfold laws_FnExactUnpackOps.f; rw [if_pos hb]⟩
  · have hl : l.length ≤ 1048576 := by omega
    have hby := u8_bytes hwf
    have hlen := unpackB_len l hby
    obtain ⟨K, hK⟩ : ∃ K, K = 16 * l.length + 1400003 := ⟨_, rfl⟩
    refine ⟨K + 3, ?_⟩
    have ht := toByteS_tells l hl
    have hs := specUnpackOps_tells l hby
    have hi := implUnpackOps_tells l hby
    have he := eqOpS_tells (unpackB l).1 (by omega)
    have heb := eqByteS_tells l hl
    have hm0 := markByteS_tells 1 (by omega) l (by omega) (K + 2) (by omega)
    have hm := markOpS_tells 1 (by omega) (unpackB l).1 (by omega) (K + 1) (by omega)
    have hh := heldOpS_tells 1 (by omega) (unpackB l).1.length (by omega)
    unfold laws_FnExactUnpackOps.f
    rw [if_neg hb, ht (K + 3) (by omega)]
    simp only [Option.bind_some, hs (K + 3) (by omega), hi (K + 3) (by omega), he (K + 3) (by omega), reduceIte]
    simp only [laws_FnExactUnpackOps.j0, bne_self_eq_false, Bool.false_eq_true, reduceIte, ht (K + 2) (by omega), Option.bind_some, heb (K + 2) (by omega)]
    rw [show (1 : Int) = ((1 : Nat) : Int) from rfl, hm0]
    simp only [Option.bind_some]
    rw [if_neg (by omega)]
    simp only [he (K + 2) (by omega), Option.bind_some, reduceIte, laws_FnExactUnpackOps.j1, Bool.false_eq_true]
    rw [show (1 : Int) = ((1 : Nat) : Int) from rfl, hm]
    simp only [Option.bind_some]
    rw [hh (K + 1) (by omega)]
    simp only [Option.bind_some]
    rw [if_neg (by omega)]
    simp only [reduceIte, ht (K + 1) (by omega), Option.bind_some, hi (K + 1) (by omega), he (K + 1) (by omega), laws_FnExactUnpackOps.j2, bne_self_eq_false, Bool.false_eq_true]
    rw [show (1 : Int) = ((1 : Nat) : Int) from rfl, hh K (by omega)]
    simp only [Option.bind_some]
    rw [if_neg (by omega)]
    simp

end Go.Proofs.Ytimlccgpeoaigaa.Pure
