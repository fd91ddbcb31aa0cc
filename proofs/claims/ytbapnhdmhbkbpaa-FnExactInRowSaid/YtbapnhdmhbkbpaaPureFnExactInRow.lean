/- FnExactInRow: the pure statement: the program's InRow and the reference's answer alike, for every list of calls, and the argument stays as it was. No condition. -/
import Derived.Test.YtbapnhdmhbkbpaaPFnExactInRowy
namespace Go.Proofs.Ytbapnhdmhbkbpaa.Pure
open Go.RowKit Go.Proofs.Ytbapnhdmhbkbpaa.PFnExactInRow Go.Proofs.YtbapnhdmhbkbpaaW.PrintWords Go.Proofs.YtbapnhdmhbkbpaaW.PrintLast

/-! the laws' copies of lists of calls, and their comparison -/
theorem wr1 {n m : Nat} (h : n < m) (hm : m ≤ 1048576) : wrap64 ((n : Int) + 1) = ((n + 1 : Nat) : Int) := by
  unfold wrap64
  omega
theorem sz_big (n : Nat) (hn : n ≤ 9223372036854775807) : wrap64 (1048576 - (n : Int)) < 0 ∨ n ≤ 1048576 := by
  unfold wrap64
  omega
def cvC (x : S60) : S56 := ⟨x.f0, x.f1, x.f2, x.f3, x.f4⟩
theorem rdL {l : List S60} {n : Nat} (h : n < l.length) : rd_T60 l (n : Int) = l[n] := by unfold rd_T60; simp [List.getD_eq_getElem?_getD, h]
theorem rdC {l : List S56} {n : Nat} (h : n < l.length) : rd_T56 l (n : Int) = l[n] := by unfold rd_T56; simp [List.getD_eq_getElem?_getD, h]
theorem toCallS_loop (l : List S60) (hl : l.length ≤ 1048576) (d : Nat) : ∀ (n k : Nat) (acc : List S56), acc.length = l.length → n + d = l.length → d < k → acc.take n = (l.take n).map cvC →
    laws_toCallS.l0 k l acc (n : Int) = some (l.map cvC) := by
  induction d with
  | zero =>
    intro n k acc ha hn hk ht
    obtain ⟨k, rfl⟩ : ∃ m, k = m + 1 := ⟨k - 1, by omega⟩
    simp only [laws_toCallS.l0]
    rw [if_neg (by omega)]
    rw [List.take_of_length_le (by omega), List.take_of_length_le (by omega)] at ht
    rw [ht]
  | succ d ih =>
    intro n k acc ha hn hk ht
    obtain ⟨k, rfl⟩ : ∃ m, k = m + 1 := ⟨k - 1, by omega⟩
    have hlt : n < l.length := by omega
    simp only [laws_toCallS.l0, laws_toCall.f, Option.bind_some]
    rw [if_pos (by omega), if_pos (by omega), if_pos (by omega), wr1 hlt hl]
    refine ih (n + 1) k _ (by simp [ha]) (by omega) (by omega) ?_
    simp only [Int.toNat_natCast]
    rw [List.take_succ_eq_append_getElem (by simp; omega), List.take_succ_eq_append_getElem hlt, rdL hlt, List.map_append, ← ht, List.take_set_of_le (by omega)]
    simp [cvC]
theorem toCallS_tells (l : List S60) (hl : l.length ≤ 1048576) (k : Nat) (hk : l.length < k) : laws_toCallS.f k l = some (l.map cvC) := by
  unfold laws_toCallS.f
  rw [if_pos (by omega), if_pos (by omega)]
  exact toCallS_loop l hl l.length 0 k _ (by simp) (by omega) hk rfl
theorem eqCallS_loop (l : List S56) (hl : l.length ≤ 1048576) (d : Nat) : ∀ (n k : Nat), n + d = l.length → d < k → laws_eqCallS.l0 k l l (n : Int) = some true := by
  induction d with
  | zero =>
    intro n k hn hk
    obtain ⟨k, rfl⟩ : ∃ m, k = m + 1 := ⟨k - 1, by omega⟩
    simp only [laws_eqCallS.l0]
    rw [if_neg (by omega)]
  | succ d ih =>
    intro n k hn hk
    obtain ⟨k, rfl⟩ : ∃ m, k = m + 1 := ⟨k - 1, by omega⟩
    have hlt : n < l.length := by omega
    simp only [laws_eqCallS.l0, laws_eqCall.f]
    rw [if_pos (by omega), if_pos (by omega), if_pos (by omega), wr1 hlt hl]
    simp only [bne_self_eq_false, Bool.false_eq_true, if_false, if_true, Option.bind_some]
    exact ih (n + 1) k (by omega) (by omega)
theorem eqCallS_tells (l : List S56) (hl : l.length ≤ 1048576) (k : Nat) (hk : l.length < k) : laws_eqCallS.f k l l = some true := by
  unfold laws_eqCallS.f
  rw [if_pos rfl]
  exact eqCallS_loop l hl l.length 0 k (by omega) hk

theorem in_tells (a b c : Int) : spec_l01In.f a b c = some (decide (b ≤ a ∧ a ≤ c)) := by
  unfold spec_l01In.f
  by_cases h : b ≤ a <;> simp [h]
theorem specCallOk_tells (k : Nat) (hk : 0 < k) (p : Bool) (v r f t : Int) : spec_CallOk.f k p v r f t = some (okB p v r f t) := by
  obtain ⟨k, rfl⟩ : ∃ m, k = m + 1 := ⟨k - 1, by omega⟩
  unfold spec_CallOk.f
  simp only [in_tells, Option.bind_some, spec_CallOk.j0, okB]
  grind
/-- the whole list is fine: at most seven calls, all of them valid -/
def fineC (l : List S56) : Bool := decide (l.length ≤ 7) && l.all okC
theorem fine_loop (l : List S56) (hl : l.length ≤ 1048576) (d : Nat) : ∀ (n k : Nat), n + d = l.length → d + 1 < k → spec_l16Fine.l0 k l (n : Int) = some ((l.drop n).all okC) := by
  induction d with
  | zero =>
    intro n k hn hk
    obtain ⟨k, rfl⟩ : ∃ m, k = m + 1 := ⟨k - 1, by omega⟩
    simp only [spec_l16Fine.l0]
    rw [if_neg (by omega), List.drop_of_length_le (by omega)]
    rfl
  | succ d ih =>
    intro n k hn hk
    obtain ⟨k, rfl⟩ : ∃ m, k = m + 1 := ⟨k - 1, by omega⟩
    have hlt : n < l.length := by omega
    simp only [spec_l16Fine.l0]
    rw [if_pos (by omega), if_pos (by omega), specCallOk_tells k (by omega), rdC hlt, Option.bind_some, wr1 hlt hl, ih (n + 1) k (by omega) (by omega), List.drop_eq_getElem_cons hlt, List.all_cons]
    show (if okC l[n] = true then _ else _) = _
    cases okC l[n] <;> simp
theorem fine_tells (l : List S56) (hl : l.length ≤ 1048576) (k : Nat) (hk : 9 < k) : spec_l16Fine.f k l = some (fineC l) := by
  unfold spec_l16Fine.f fineC
  by_cases h : l.length ≤ 7
  · rw [if_neg (by omega), show (0 : Int) = ((0 : Nat) : Int) from rfl, fine_loop l hl l.length 0 k (by omega) (by omega)]
    simp [h]
  · rw [if_pos (by omega)]
    simp [h]
theorem are_tells (l : List S56) : impl_areCalls.f l = some (fineC l) := rfl

def aheadB (a b : S56) : Bool := okC a && okC b && decide (a.f4 < b.f3)
theorem specAhead_tells (k : Nat) (hk : 0 < k) (a b : S56) : spec_Ahead.f k a.f0 a.f1 a.f2 a.f3 a.f4 b.f0 b.f1 b.f2 b.f3 b.f4 = some (aheadB a b) := by
  unfold spec_Ahead.f aheadB okC
  rw [specCallOk_tells k hk, specCallOk_tells k hk]
  cases okB a.f0 a.f1 a.f2 a.f3 a.f4 <;> cases okB b.f0 b.f1 b.f2 b.f3 b.f4 <;> simp
theorem implAhead_tells (k : Nat) (hk : 0 < k) (a b : S56) : impl_Ahead.f k a.f0 a.f1 a.f2 a.f3 a.f4 b.f0 b.f1 b.f2 b.f3 b.f4 = some (aheadB a b) := by
  obtain ⟨k, rfl⟩ : ∃ m, k = m + 1 := ⟨k - 1, by omega⟩
  unfold impl_Ahead.f aheadB okC
  rw [implCallOk_tells, implCallOk_tells]
  cases okB a.f0 a.f1 a.f2 a.f3 a.f4 <;> cases okB b.f0 b.f1 b.f2 b.f3 b.f4 <;> simp
def rowFrom (l : List S56) (n : Nat) : Bool := (List.range (l.length - n)).all fun j => aheadB (l.getD (n + j - 1) z56) (l.getD (n + j) z56)
theorem rowFrom_end (l : List S56) (n : Nat) (h : l.length ≤ n) : rowFrom l n = true := by
  unfold rowFrom
  rw [Nat.sub_eq_zero_of_le h]
  rfl
theorem rowFrom_step (l : List S56) (n : Nat) (h : n < l.length) : rowFrom l n = (aheadB (l.getD (n - 1) z56) (l.getD n z56) && rowFrom l (n + 1)) := by
  unfold rowFrom
  rw [show l.length - n = (l.length - (n + 1)) + 1 by omega, List.range_succ_eq_map, List.all_cons, List.all_map]
  congr 1
  congr 1
  funext j
  simp only [Function.comp]
  congr 2 <;> omega
theorem wrm {n m : Nat} (h1 : 1 ≤ n) (h : n < m) (hm : m ≤ 1048576) : wrap64 ((n : Int) - 1) = ((n - 1 : Nat) : Int) := by
  unfold wrap64
  omega
theorem rdD (l : List S56) (n : Nat) : rd_T56 l (n : Int) = l.getD n z56 := rfl
theorem specRow_loop (l : List S56) (hl : l.length ≤ 1048576) (d : Nat) : ∀ (n k : Nat), 1 ≤ n → n + d = l.length → d + 1 < k → spec_InRow.l0 k l (n : Int) = some (rowFrom l n) := by
  induction d with
  | zero =>
    intro n k h1 hn hk
    obtain ⟨k, rfl⟩ : ∃ m, k = m + 1 := ⟨k - 1, by omega⟩
    simp only [spec_InRow.l0]
    rw [if_neg (by omega), rowFrom_end l n (by omega)]
  | succ d ih =>
    intro n k h1 hn hk
    obtain ⟨k, rfl⟩ : ∃ m, k = m + 1 := ⟨k - 1, by omega⟩
    have hlt : n < l.length := by omega
    simp only [spec_InRow.l0]
    rw [wrm h1 hlt hl, wr1 hlt hl, if_pos (by omega), if_pos (by omega), if_pos (by omega), if_pos (by omega), specAhead_tells k (by omega), Option.bind_some, rowFrom_step l n hlt, rdD, rdD, ih (n + 1) k (by omega) (by omega) (by omega)]
    cases aheadB (l.getD (n - 1) z56) (l.getD n z56) <;> simp
theorem implRow_loop (l : List S56) (hl : l.length ≤ 1048576) (d : Nat) : ∀ (n k : Nat), 1 ≤ n → n + d = l.length → d + 1 < k → impl_InRow.l0 k l (n : Int) = some (rowFrom l n && fineC l) := by
  induction d with
  | zero =>
    intro n k h1 hn hk
    obtain ⟨k, rfl⟩ : ∃ m, k = m + 1 := ⟨k - 1, by omega⟩
    simp only [impl_InRow.l0]
    rw [if_neg (by omega), rowFrom_end l n (by omega), are_tells]
    simp
  | succ d ih =>
    intro n k h1 hn hk
    obtain ⟨k, rfl⟩ : ∃ m, k = m + 1 := ⟨k - 1, by omega⟩
    have hlt : n < l.length := by omega
    simp only [impl_InRow.l0]
    rw [wrm h1 hlt hl, wr1 hlt hl, if_pos (by omega), if_pos (by omega), if_pos (by omega), if_pos (by omega), implAhead_tells k (by omega), Option.bind_some, rowFrom_step l n hlt, rdD, rdD, ih (n + 1) k (by omega) (by omega) (by omega)]
    cases aheadB (l.getD (n - 1) z56) (l.getD n z56) <;> simp
theorem specRow_tells (l : List S56) (hl : l.length ≤ 1048576) (k : Nat) (hk : l.length + 10 < k) : spec_InRow.f k l = some (rowFrom l 1 && fineC l) := by
  unfold spec_InRow.f
  rw [fine_tells l hl k (by omega), Option.bind_some]
  cases hf : fineC l with
  | false => simp
  | true =>
    simp only [if_true, Bool.and_true]
    by_cases h : 1 ≤ l.length
    · exact specRow_loop l hl (l.length - 1) 1 k (by omega) (by omega) (by omega)
    · obtain ⟨k, rfl⟩ : ∃ m, k = m + 1 := ⟨k - 1, by omega⟩
      simp only [spec_InRow.l0]
      rw [if_neg (by omega), rowFrom_end l 1 (by omega)]
theorem implRow_tells (l : List S56) (hl : l.length ≤ 1048576) (k : Nat) (hk : l.length + 10 < k) : impl_InRow.f k l = some (rowFrom l 1 && fineC l) := by
  unfold impl_InRow.f
  by_cases h : 1 ≤ l.length
  · exact implRow_loop l hl (l.length - 1) 1 k (by omega) (by omega) (by omega)
  · obtain ⟨k, rfl⟩ : ∃ m, k = m + 1 := ⟨k - 1, by omega⟩
    simp only [impl_InRow.l0]
    rw [if_neg (by omega), rowFrom_end l 1 (by omega), are_tells]
    simp
theorem FnExactInRow (l : List S60) (hl : l.length ≤ 9223372036854775807) (_ : ∀ x ∈ l, (Lit.int .i64 x.f1).wf = true ∧ (Lit.int .i64 x.f2).wf = true ∧ (Lit.int .i64 x.f3).wf = true ∧ (Lit.int .i64 x.f4).wf = true) : ∃ k, laws_FnExactInRow.f k l = some true := by
  refine ⟨l.length + 11, ?_⟩
  unfold laws_FnExactInRow.f laws_szCallS.f
  by_cases hneg : wrap64 (1048576 - (l.length : Int)) < 0
  · rw [if_pos hneg]
    simp
  · have hs : l.length ≤ 1048576 := (sz_big l.length hl).resolve_left hneg
    rw [if_neg hneg]
    simp only [Option.bind_some]
    rw [if_neg hneg, toCallS_tells l hs _ (by omega)]
    simp only [Option.bind_some]
    rw [specRow_tells _ (by simpa using hs) _ (by simp), implRow_tells _ (by simpa using hs) _ (by simp), eqCallS_tells _ (by simpa using hs) _ (by simp)]
    simp

end Go.Proofs.Ytbapnhdmhbkbpaa.Pure
