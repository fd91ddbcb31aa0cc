/- FnExactPackOp: the pure statement: the program's PackOp and the reference's answer alike, for every operation, and nothing is shared. No condition. -/
import Derived.Test.YtgpalgkfpkbcmaaPFnExactPackOpx2
namespace Go.Proofs.Ytgpalgkfpkbcmaa.Pure
open Go.RowKit Go.Proofs.Ytgpalgkfpkbcmaa.PFnExactPackOp Go.Proofs.YtgpalgkfpkbcmaaW.PrintWords Go.Proofs.YtgpalgkfpkbcmaaW.PrintLast

theorem wr1 {n m : Nat} (h : n < m) (hm : m ≤ 1048576) : wrap64 ((n : Int) + 1) = ((n + 1 : Nat) : Int) := by
  unfold wrap64
  omega
theorem rd_at {l : List Int} {n : Nat} (h : n < l.length) : rd l (n : Int) = l[n] := by unfold rd; simp [List.getD_eq_getElem?_getD, h]

theorem in_tells (a b c : Int) : spec_l01In.f a b c = some (decide (b ≤ a ∧ a ≤ c)) := by
  unfold spec_l01In.f
  by_cases h : b ≤ a <;> simp [h]
theorem within_tells (a b c : Int) : impl_within.f a b c = some (decide (b ≤ a ∧ a ≤ c)) := by
  unfold impl_within.f
  by_cases h : b ≤ a <;> simp [h]

def opB (a t x : Int) : Bool := decide (0 ≤ a ∧ a ≤ 6 ∧ 0 ≤ t ∧ t ≤ 4 ∧ (a = 0 → t = 0) ∧ (if 1 ≤ a ∧ a ≤ 3 then 1 ≤ x ∧ x ≤ 60 else x = 0))
theorem specHasX_tells (a : Int) : spec_l17HasX.f a = some (decide (1 ≤ a ∧ a ≤ 3)) := by unfold spec_l17HasX.f; rw [in_tells]; rfl
theorem implHasX_tells (a : Int) : impl_hasX.f a = some (decide (1 ≤ a ∧ a ≤ 3)) := by unfold impl_hasX.f; rw [within_tells]; rfl
theorem specWorker_tells (a : Int) : spec_l10Worker.f a = some (decide (0 ≤ a ∧ a ≤ 4)) := by unfold spec_l10Worker.f; rw [in_tells]; rfl
theorem implWorker_tells (a : Int) : impl_isWorker.f a = some (decide (0 ≤ a ∧ a ≤ 4)) := by unfold impl_isWorker.f; rw [within_tells]; rfl
theorem specOpOk_tells (k : Nat) (a t x : Int) : spec_OpOk.f (k + 1) a t x = some (opB a t x) := by
  unfold spec_OpOk.f
  simp only [in_tells, specHasX_tells, specWorker_tells, Option.bind_some, spec_OpOk.j0, opB]
  simp only [decide_eq_true_eq, reduceIte, Bool.false_eq_true, bne_iff_ne, ne_eq]
  (repeat' split) <;> first | (simp only [Option.some.injEq, decide_eq_decide]; omega) | (symm; simp only [Option.some.injEq, decide_eq_false_iff_not]; omega) | (simp_all; done) | (simp_all; omega) | (rw [Option.some.injEq, eq_comm, Bool.eq_iff_iff]; simp; omega)
theorem implOpOk_tells (k : Nat) (a t x : Int) : impl_OpOk.f (k + 1) a t x = some (opB a t x) := by
  unfold impl_OpOk.f
  simp only [within_tells, implHasX_tells, implWorker_tells, Option.bind_some, impl_OpOk.j0, opB]
  simp only [decide_eq_true_eq, reduceIte, Bool.false_eq_true, bne_iff_ne, ne_eq]
  (repeat' split) <;> first | (simp only [Option.some.injEq, decide_eq_decide]; omega) | (symm; simp only [Option.some.injEq, decide_eq_false_iff_not]; omega) | (simp_all; done) | (simp_all; omega) | (rw [Option.some.injEq, eq_comm, Bool.eq_iff_iff]; simp; omega)

theorem eqByteS_loop (l : List Int) (hl : l.length ≤ 1048576) (d : Nat) : ∀ (n k : Nat), n + d = l.length → d < k → laws_eqByteS.l0 k l l (n : Int) = some true := by
  induction d with
  | zero =>
    intro n k hn hk
    obtain ⟨k, rfl⟩ : ∃ m, k = m + 1 := ⟨k - 1, by omega⟩
    simp only [laws_eqByteS.l0]
    rw [if_neg (by omega)]
  | succ d ih =>
    intro n k hn hk
    obtain ⟨k, rfl⟩ : ∃ m, k = m + 1 := ⟨k - 1, by omega⟩
    have hlt : n < l.length := by omega
    simp only [laws_eqByteS.l0]
    rw [if_pos (by omega), if_pos (by omega), if_pos (by omega), if_pos trivial, wr1 hlt hl]
    exact ih (n + 1) k (by omega) (by omega)
theorem eqByteS_tells (l : List Int) (hl : l.length ≤ 1048576) (k : Nat) (hk : l.length < k) : laws_eqByteS.f k l l = some true := by
  unfold laws_eqByteS.f
  rw [if_pos rfl]
  exact eqByteS_loop l hl l.length 0 k (by omega) hk

def marks (a n : Nat) : List Int := (List.range n).map fun i => ((a + i : Nat) : Int) % 256
theorem marks_length (a n : Nat) : (marks a n).length = n := by simp [marks]
theorem marks_at (a : Nat) {n i : Nat} (h : i < n) : rd (marks a n) (i : Int) = ((a + i : Nat) : Int) % 256 := by
  rw [rd_at (by rw [marks_length]; exact h)]
  simp [marks]
theorem marks_succ (a n : Nat) : marks a (n + 1) = marks a n ++ [((a + n : Nat) : Int) % 256] := by simp [marks, List.range_succ]
theorem wr2 {a n m : Nat} (h : n < m) (hm : m ≤ 1048576) (ha : a ≤ 1048576) : wrap64 (((a + n : Nat) : Int) + 1) = ((a + (n + 1) : Nat) : Int) := by
  unfold wrap64
  omega
theorem markByteS_loop (a : Nat) (ha : a ≤ 1048576) (d : Nat) : ∀ (n k : Nat) (x : List Int), x.length ≤ 1048576 → x.length = n + d → d < k → x.take n = marks a n →
    laws_markByteS.l0 k x ((a + n : Nat) : Int) (n : Int) = some (((a + x.length : Nat) : Int), marks a x.length) := by
  induction d with
  | zero =>
    intro n k x hl hx hk ht
    obtain ⟨k, rfl⟩ : ∃ m, k = m + 1 := ⟨k - 1, by omega⟩
    simp only [laws_markByteS.l0]
    rw [if_neg (by omega)]
    rw [List.take_of_length_le (by omega)] at ht
    obtain rfl : n = x.length := by omega
    rw [← ht]
  | succ d ih =>
    intro n k x hl hx hk ht
    obtain ⟨k, rfl⟩ : ∃ m, k = m + 1 := ⟨k - 1, by omega⟩
    have hlt : n < x.length := by omega
    simp only [laws_markByteS.l0]
    rw [if_pos (by omega), if_pos (by omega), wr1 hlt hl, wr2 hlt hl ha]
    have := ih (n + 1) k (x.set n (((a + n : Nat) : Int) % 256)) (by simpa using hl) (by simp; omega) (by omega) (by
      rw [List.take_succ_eq_append_getElem (by simp; omega), marks_succ]
      simp [List.take_set_of_le, ht])
    simpa using this
theorem markByteS_tells (a : Nat) (ha : a ≤ 1048576) (x : List Int) (hl : x.length ≤ 1048576) (k : Nat) (hk : x.length < k) : laws_markByteS.f k x (a : Int) = some (((a + x.length : Nat) : Int), marks a x.length) := by
  unfold laws_markByteS.f
  exact markByteS_loop a ha x.length 0 k x hl (by omega) hk rfl
theorem heldByteS_loop (a L : Nat) (ha : a ≤ 1048576) (hl : L ≤ 1048576) (d : Nat) : ∀ (n k : Nat), L = n + d → d < k → laws_heldByteS.l0 k (marks a L) ((a + n : Nat) : Int) (n : Int) = some ((a + L : Nat) : Int) := by
  induction d with
  | zero =>
    intro n k hx hk
    obtain ⟨k, rfl⟩ : ∃ m, k = m + 1 := ⟨k - 1, by omega⟩
    simp only [laws_heldByteS.l0, marks_length]
    rw [if_neg (by omega)]
    subst hx; rfl
  | succ d ih =>
    intro n k hx hk
    obtain ⟨k, rfl⟩ : ∃ m, k = m + 1 := ⟨k - 1, by omega⟩
    have hlt : n < L := by omega
    simp only [laws_heldByteS.l0, marks_length]
    rw [if_pos (by omega), if_pos (by omega), marks_at a hlt, if_pos rfl, wr1 hlt hl, wr2 hlt hl ha]
    exact ih (n + 1) k (by omega) (by omega)
theorem heldByteS_tells (a L : Nat) (ha : a ≤ 1048576) (hl : L ≤ 1048576) (k : Nat) (hk : L < k) : laws_heldByteS.f k (marks a L) (a : Int) = some ((a + L : Nat) : Int) := by
  unfold laws_heldByteS.f
  exact heldByteS_loop a L ha hl L 0 k (by omega) hk

def pack (a t x : Int) : List Int := if opB a t x = true then (if 1 ≤ a ∧ a ≤ 3 then [(wrap64 ((wrap64 (5 * a)) + t)) % 256, x % 256] else [(wrap64 ((wrap64 (5 * a)) + t)) % 256]) else []
theorem pack_length (a t x : Int) : (pack a t x).length ≤ 2 := by unfold pack; (repeat' split) <;> simp
theorem specPack_tells (k : Nat) (a t x : Int) : spec_PackOp.f (k + 1) a t x = some (pack a t x) := by
  unfold spec_PackOp.f pack
  simp only [specOpOk_tells, specHasX_tells, Option.bind_some, decide_eq_true_eq]
  by_cases h : opB a t x = true <;> by_cases h' : 1 ≤ a ∧ a ≤ 3 <;> simp [h, h']
theorem implPack_tells (k : Nat) (a t x : Int) : impl_PackOp.f (k + 1) a t x = some (pack a t x) := by
  unfold impl_PackOp.f pack
  simp only [implOpOk_tells, implHasX_tells, Option.bind_some, decide_eq_true_eq]
  by_cases h : opB a t x = true <;> by_cases h' : 1 ≤ a ∧ a ≤ 3 <;> simp [h, h']
theorem FnExactPackOp (a t x : Int) (_ : (Lit.int .i64 a).wf = true) (_ : (Lit.int .i64 t).wf = true) (_ : (Lit.int .i64 x).wf = true) : ∃ k, laws_FnExactPackOp.f k a t x = some true := by
  have hl := pack_length a t x
  refine ⟨3, ?_⟩
  have he := eqByteS_tells (pack a t x) (by omega) 3 (by omega)
  have hm := markByteS_tells 1 (by omega) (pack a t x) (by omega) 3 (by omega)
  have hh := heldByteS_tells 1 (pack a t x).length (by omega) (by omega) 3 (by omega)
  unfold laws_FnExactPackOp.f laws_toOp.f
  simp only [Option.bind_some, specPack_tells 2, implPack_tells 2, he, reduceIte]
  rw [show (1 : Int) = ((1 : Nat) : Int) from rfl, hm]
  simp only [Option.bind_some]
  rw [hh]
  simp only [Option.bind_some]
  have h0 : ¬ ((1 + (pack a t x).length : Nat) : Int) < 0 := by omega
  simp only [h0, reduceIte]

end Go.Proofs.Ytgpalgkfpkbcmaa.Pure
