/- FnExactUnpackOp: the pure statement: the program's UnpackOp and the reference's answer alike, for all bytes and every index. No condition. -/
import Derived.Test.YtimlccgpeoaigaaPFnExactUnpackOpy
namespace Go.Proofs.Ytimlccgpeoaigaa.Pure
open Go.RowKit Go.Proofs.Ytimlccgpeoaigaa.PFnExactUnpackOp Go.Proofs.YtimlccgpeoaigaaW.PrintWords Go.Proofs.YtimlccgpeoaigaaW.PrintLast

theorem wr1 {n m : Nat} (h : n < m) (hm : m ≤ 1048576) : wrap64 ((n : Int) + 1) = ((n + 1 : Nat) : Int) := by
  unfold wrap64
  omega
theorem rd_at {l : List Int} {n : Nat} (h : n < l.length) : rd l (n : Int) = l[n] := by unfold rd; simp [List.getD_eq_getElem?_getD, h]
theorem take_set (l acc : List Int) (n : Nat) (h : n < l.length) (hl : acc.length = l.length) (ht : acc.take n = l.take n) :
    (acc.set n (rd l n)).take (n + 1) = l.take (n + 1) := by
  rw [List.take_succ_eq_append_getElem (by simp; omega), List.take_succ_eq_append_getElem h]
  simp [ht, rd_at h, List.take_set_of_le]
theorem toByteS_loop (l : List Int) (hl : l.length ≤ 1048576) (d : Nat) : ∀ (n k : Nat) (acc : List Int), acc.length = l.length → n + d = l.length → d < k → acc.take n = l.take n →
    laws_toByteS.l0 k l acc (n : Int) = some l := by
  induction d with
  | zero =>
    intro n k acc ha hn hk ht
    obtain ⟨k, rfl⟩ : ∃ m, k = m + 1 := ⟨k - 1, by omega⟩
    simp only [laws_toByteS.l0]
    rw [if_neg (by omega)]
    rw [List.take_of_length_le (by omega), List.take_of_length_le (by omega)] at ht
    rw [ht]
  | succ d ih =>
    intro n k acc ha hn hk ht
    obtain ⟨k, rfl⟩ : ∃ m, k = m + 1 := ⟨k - 1, by omega⟩
    have hlt : n < l.length := by omega
    simp only [laws_toByteS.l0]
    rw [if_pos (by omega), if_pos (by omega), if_pos (by omega), wr1 hlt hl]
    exact ih (n + 1) k _ (by simp [ha]) (by omega) (by omega) (take_set l acc n hlt ha ht)
theorem toByteS_tells (l : List Int) (hl : l.length ≤ 1048576) (k : Nat) (hk : l.length < k) : laws_toByteS.f k l = some l := by
  unfold laws_toByteS.f
  rw [if_pos (by omega), if_pos (by omega)]
  exact toByteS_loop l hl l.length 0 k _ (by simp) (by omega) hk rfl

theorem eqByteS_loop (l : List Int) (hl : l.length ≤ 1048576) (d : Nat) : ∀ (n k : Nat), n + d = l.length → d < k → laws_eqByteS.l0 k l l (n : Int) = some true := by
  induction d with
  | zero =>
    intro n k hn hk
    obtain ⟨k, rfl⟩ : ∃ m, k = m + 1 := ⟨k - 1, by omega⟩
    simp only [laws_eqByteS.l0]
    rw [if_neg (by omega)]
  | succ d ih =>
    intro n k hn hk
    obtain ⟨k, rfl⟩ : ∃ m, k = m + 1 := ⟨k - 1, by omega⟩
    have hlt : n < l.length := by omega
    simp only [laws_eqByteS.l0]
    rw [if_pos (by omega), if_pos (by omega), if_pos (by omega), if_pos trivial, wr1 hlt hl]
    exact ih (n + 1) k (by omega) (by omega)
theorem eqByteS_tells (l : List Int) (hl : l.length ≤ 1048576) (k : Nat) (hk : l.length < k) : laws_eqByteS.f k l l = some true := by
  unfold laws_eqByteS.f
  rw [if_pos rfl]
  exact eqByteS_loop l hl l.length 0 k (by omega) hk

theorem FnExactUnpackOp (l : List Int) (a : Int) (_ : l.length ≤ maxLen) (_ : l.length * 1 ≤ 140737488351232) (_ : ∀ x ∈ l, (Lit.int .u8 x).wf = true) (_ : (Lit.int .i64 a).wf = true) : ∃ k, laws_FnExactUnpackOp.f k l a = some true := by
  by_cases hb : (l.length : Int) > 1048576
  · exact ⟨0, by unfold laws_FnExactUnpackOp.f; rw [if_pos hb]⟩
  · have hl : l.length ≤ 1048576 := by omega
    refine ⟨l.length + 3, ?_⟩
    have ht := toByteS_tells l hl
    have heb := eqByteS_tells l hl
    unfold laws_FnExactUnpackOp.f spec_UnpackOp.f impl_UnpackOp.f laws_eqOp.f
    rw [if_neg hb, ht _ (by omega)]
    simp only [Option.bind_some, reduceIte, laws_FnExactUnpackOp.j0, bne_self_eq_false, Bool.false_eq_true, ht (l.length + 2) (by omega), heb (l.length + 2) (by omega)]

end Go.Proofs.Ytimlccgpeoaigaa.Pure
