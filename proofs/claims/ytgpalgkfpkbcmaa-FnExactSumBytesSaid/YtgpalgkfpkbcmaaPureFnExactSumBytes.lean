/- FnExactSumBytes: the pure statement of the law that the program's SumBytes and the reference's SumBytes answer alike for every slice of bytes, and that the argument is left as it was. No condition. -/
import Derived.Test.YtgpalgkfpkbcmaaPFnExactSumBytesx1
namespace Go.Proofs.Ytgpalgkfpkbcmaa.Pure
open Go.RowKit Go.Proofs.Ytgpalgkfpkbcmaa.PFnExactSumBytes Go.Proofs.YtgpalgkfpkbcmaaW.PrintWords Go.Proofs.YtgpalgkfpkbcmaaW.PrintLast

theorem wr1 {n m : Nat} (h : n < m) (hm : m ≤ 1048576) : wrap64 ((n : Int) + 1) = ((n + 1 : Nat) : Int) := by
  unfold wrap64
  omega

theorem take_set (l acc : List Int) (n : Nat) (h : n < l.length) (hl : acc.length = l.length) (ht : acc.take n = l.take n) :
    (acc.set n (rd l n)).take (n + 1) = l.take (n + 1) := by
  have e : rd l (n : Int) = l[n] := by
    unfold rd
    simp [List.getD_eq_getElem?_getD, h]
  rw [List.take_succ_eq_append_getElem (by simp; omega), List.take_succ_eq_append_getElem h]
  simp [ht, e, List.take_set_of_le]

theorem toByteS_loop (l : List Int) (hl : l.length ≤ 1048576) (d : Nat) : ∀ (n k : Nat) (acc : List Int), acc.length = l.length → n + d = l.length → d < k → acc.take n = l.take n →
    laws_toByteS.l0 k l acc (n : Int) = some l := by
  induction d with
  | zero =>
    intro n k acc ha hn hk ht
    obtain ⟨k, rfl⟩ : ∃ m, k = m + 1 := ⟨k - 1, by omega⟩
    simp only [laws_toByteS.l0]
    rw [if_neg (by omega)]
    rw [List.take_of_length_le (by omega), List.take_of_length_le (by omega)] at ht
    rw [ht]
  | succ d ih =>
    intro n k acc ha hn hk ht
    obtain ⟨k, rfl⟩ : ∃ m, k = m + 1 := ⟨k - 1, by omega⟩
    have hlt : n < l.length := by omega
    simp only [laws_toByteS.l0]
    rw [if_pos (by omega), if_pos (by omega), if_pos (by omega), wr1 hlt hl]
    exact ih (n + 1) k _ (by simp [ha]) (by omega) (by omega) (take_set l acc n hlt ha ht)

theorem toByteS_tells (l : List Int) (hl : l.length ≤ 1048576) (k : Nat) (hk : l.length < k) : laws_toByteS.f k l = some l := by
  unfold laws_toByteS.f
  rw [if_pos (by omega), if_pos (by omega)]
  exact toByteS_loop l hl l.length 0 k _ (by simp) (by omega) hk rfl

theorem eqByteS_loop (l : List Int) (hl : l.length ≤ 1048576) (d : Nat) : ∀ (n k : Nat), n + d = l.length → d < k → laws_eqByteS.l0 k l l (n : Int) = some true := by
  induction d with
  | zero =>
    intro n k hn hk
    obtain ⟨k, rfl⟩ : ∃ m, k = m + 1 := ⟨k - 1, by omega⟩
    simp only [laws_eqByteS.l0]
    rw [if_neg (by omega)]
  | succ d ih =>
    intro n k hn hk
    obtain ⟨k, rfl⟩ : ∃ m, k = m + 1 := ⟨k - 1, by omega⟩
    have hlt : n < l.length := by omega
    simp only [laws_eqByteS.l0]
    rw [if_pos (by omega), if_pos (by omega), if_pos (by omega), if_pos trivial, wr1 hlt hl]
    exact ih (n + 1) k (by omega) (by omega)

theorem eqByteS_tells (l : List Int) (hl : l.length ≤ 1048576) (k : Nat) (hk : l.length < k) : laws_eqByteS.f k l l = some true := by
  unfold laws_eqByteS.f
  rw [if_pos rfl]
  exact eqByteS_loop l hl l.length 0 k (by omega) hk

def sumStep (s x : Int) : Int := Int.tmod (wrap64 ((wrap64 (31 * s)) + (wrap64 x))) 65521

theorem spec_loop (l : List Int) (hl : l.length ≤ 1048576) (d : Nat) : ∀ (n k : Nat) (s : Int), n + d = l.length → d < k → spec_SumBytes.l0 k l s (n : Int) = some ((l.drop n).foldl sumStep s) := by
  induction d with
  | zero =>
    intro n k s hn hk
    obtain ⟨k, rfl⟩ : ∃ m, k = m + 1 := ⟨k - 1, by omega⟩
    simp only [spec_SumBytes.l0]
    rw [if_neg (by omega), List.drop_of_length_le (by omega)]
    rfl
  | succ d ih =>
    intro n k s hn hk
    obtain ⟨k, rfl⟩ : ∃ m, k = m + 1 := ⟨k - 1, by omega⟩
    have hlt : n < l.length := by omega
    have e : rd l (n : Int) = l[n] := by unfold rd; simp [List.getD_eq_getElem?_getD, hlt]
    simp only [spec_SumBytes.l0]
    rw [if_pos (by omega), if_pos (by omega), wr1 hlt hl, List.drop_eq_getElem_cons hlt, List.foldl_cons, ih (n + 1) k _ (by omega) (by omega), e]
    rfl

theorem impl_loop (l : List Int) (hl : l.length ≤ 1048576) (d : Nat) : ∀ (n k : Nat) (s : Int), n + d = l.length → d < k → impl_SumBytes.l0 k s l (l.length : Int) (n : Int) = some ((l.drop n).foldl sumStep s) := by
  induction d with
  | zero =>
    intro n k s hn hk
    obtain ⟨k, rfl⟩ : ∃ m, k = m + 1 := ⟨k - 1, by omega⟩
    simp only [impl_SumBytes.l0]
    rw [if_neg (by omega), List.drop_of_length_le (by omega)]
    rfl
  | succ d ih =>
    intro n k s hn hk
    obtain ⟨k, rfl⟩ : ∃ m, k = m + 1 := ⟨k - 1, by omega⟩
    have hlt : n < l.length := by omega
    have e : rd l (n : Int) = l[n] := by unfold rd; simp [List.getD_eq_getElem?_getD, hlt]
    simp only [impl_SumBytes.l0]
    rw [if_pos (by omega), if_pos (by omega), if_pos (by omega), wr1 hlt hl, List.drop_eq_getElem_cons hlt, List.foldl_cons, ih (n + 1) k _ (by omega) (by omega), e]
    rfl

theorem FnExactSumBytes : laws_FnExactSumBytes.Pure := by
  intro l _ _ _
  by_cases hb : (l.length : Int) > 1048576
  · exact ⟨0, by unfold laws_FnExactSumBytes.f; rw [if_pos hb]⟩
  · have hl : l.length ≤ 1048576 := by omega
    refine ⟨l.length + 1, ?_⟩
    have ht := toByteS_tells l hl (l.length + 1) (by omega)
    have hs := spec_loop l hl l.length 0 (l.length + 1) 1 (by omega) (by omega)
    have hi := impl_loop l hl l.length 0 (l.length + 1) 1 (by omega) (by omega)
    have he := eqByteS_tells l hl (l.length + 1) (by omega)
    unfold laws_FnExactSumBytes.f spec_SumBytes.f impl_SumBytes.f
    rw [if_neg hb, ht]
    simp only [Option.bind_some]
    rw [show (0 : Int) = ((0 : Nat) : Int) from rfl, hs, hi]
    simp only [Option.bind_some]
    rw [if_pos trivial, he]
    simp

end Go.Proofs.Ytgpalgkfpkbcmaa.Pure
