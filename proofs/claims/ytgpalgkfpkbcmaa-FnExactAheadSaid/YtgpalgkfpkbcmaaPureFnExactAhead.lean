/- FnExactAhead: the pure statement: the program's Ahead and the reference's answer alike, for every two calls. No condition. -/
import Derived.Test.YtgpalgkfpkbcmaaPFnExactAheadx2
namespace Go.Proofs.Ytgpalgkfpkbcmaa.Pure
open Go.RowKit Go.Proofs.Ytgpalgkfpkbcmaa.PFnExactAhead Go.Proofs.YtgpalgkfpkbcmaaW.PrintWords Go.Proofs.YtgpalgkfpkbcmaaW.PrintLast

theorem in_tells (a b c : Int) : spec_l01In.f a b c = some (decide (b ≤ a ∧ a ≤ c)) := by
  unfold spec_l01In.f
  by_cases h : b ≤ a <;> simp [h]
theorem within_tells (a b c : Int) : impl_within.f a b c = some (decide (b ≤ a ∧ a ≤ c)) := by
  unfold impl_within.f
  by_cases h : b ≤ a <;> simp [h]

def okB (p : Bool) (v r f t : Int) : Bool := decide (0 ≤ v ∧ v ≤ 1000000 ∧ -1 ≤ r ∧ r ≤ 1000000 ∧ 0 ≤ f ∧ f ≤ t ∧ t ≤ 1000000 ∧ (if p = true then r = 0 else v = 0))
theorem specCallOk_tells (k : Nat) (p : Bool) (v r f t : Int) : spec_CallOk.f (k + 1) p v r f t = some (okB p v r f t) := by
  unfold spec_CallOk.f
  simp only [in_tells, Option.bind_some, spec_CallOk.j0, okB]
  grind
theorem implCallOk_tells (k : Nat) (p : Bool) (v r f t : Int) : impl_CallOk.f (k + 1) p v r f t = some (okB p v r f t) := by
  unfold impl_CallOk.f
  simp only [within_tells, Option.bind_some, impl_CallOk.j0, okB]
  cases p <;> simp only [decide_eq_true_eq, reduceIte, Bool.false_eq_true] <;> (repeat' split) <;> first | (simp only [Option.some.injEq, decide_eq_decide]; omega) | (symm; simp only [Option.some.injEq, decide_eq_false_iff_not]; omega) | (simp_all; done) | (simp_all; omega)

theorem FnExactAhead (p : Bool) (v r f t : Int) (p' : Bool) (v' r' f' t' : Int) (_ : (Lit.int .i64 v).wf = true) (_ : (Lit.int .i64 r).wf = true) (_ : (Lit.int .i64 f).wf = true) (_ : (Lit.int .i64 t).wf = true)
    (_ : (Lit.int .i64 v').wf = true) (_ : (Lit.int .i64 r').wf = true) (_ : (Lit.int .i64 f').wf = true) (_ : (Lit.int .i64 t').wf = true) : ∃ k, laws_FnExactAhead.f k p v r f t p' v' r' f' t' = some true := by
  refine ⟨1, ?_⟩
  unfold laws_FnExactAhead.f laws_toCall.f spec_Ahead.f impl_Ahead.f
  simp only [Option.bind_some, specCallOk_tells 0, implCallOk_tells 0]
  cases okB p v r f t <;> cases okB p' v' r' f' t' <;> simp

end Go.Proofs.Ytgpalgkfpkbcmaa.Pure
