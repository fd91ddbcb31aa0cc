/- FnExactOpOk: the pure statement: the program's OpOk and the reference's answer alike, for every operation. No condition. -/
import Derived.Test.YtgpalgkfpkbcmaaPFnExactOpOkx1
namespace Go.Proofs.Ytgpalgkfpkbcmaa.Pure
open Go.RowKit Go.Proofs.Ytgpalgkfpkbcmaa.PFnExactOpOk Go.Proofs.YtgpalgkfpkbcmaaW.PrintWords Go.Proofs.YtgpalgkfpkbcmaaW.PrintLast

theorem in_tells (a b c : Int) : spec_l01In.f a b c = some (decide (b ≤ a ∧ a ≤ c)) := by
  unfold spec_l01In.f
  by_cases h : b ≤ a <;> simp [h]
theorem within_tells (a b c : Int) : impl_within.f a b c = some (decide (b ≤ a ∧ a ≤ c)) := by
  unfold impl_within.f
  by_cases h : b ≤ a <;> simp [h]

def opB (a t x : Int) : Bool := decide (0 ≤ a ∧ a ≤ 6 ∧ 0 ≤ t ∧ t ≤ 4 ∧ (a = 0 → t = 0) ∧ (if 1 ≤ a ∧ a ≤ 3 then 1 ≤ x ∧ x ≤ 60 else x = 0))
theorem specHasX_tells (a : Int) : spec_l17HasX.f a = some (decide (1 ≤ a ∧ a ≤ 3)) := by unfold spec_l17HasX.f; rw [in_tells]; rfl
theorem implHasX_tells (a : Int) : impl_hasX.f a = some (decide (1 ≤ a ∧ a ≤ 3)) := by unfold impl_hasX.f; rw [within_tells]; rfl
theorem specWorker_tells (a : Int) : spec_l10Worker.f a = some (decide (0 ≤ a ∧ a ≤ 4)) := by unfold spec_l10Worker.f; rw [in_tells]; rfl
theorem implWorker_tells (a : Int) : impl_isWorker.f a = some (decide (0 ≤ a ∧ a ≤ 4)) := by unfold impl_isWorker.f; rw [within_tells]; rfl
theorem specOpOk_tells (k : Nat) (a t x : Int) : spec_OpOk.f (k + 1) a t x = some (opB a t x) := by
  unfold spec_OpOk.f
  simp only [in_tells, specHasX_tells, specWorker_tells, Option.bind_some, spec_OpOk.j0, opB]
  simp only [decide_eq_true_eq, reduceIte, Bool.false_eq_true, bne_iff_ne, ne_eq]
  (repeat' split) <;> first | (simp only [Option.some.injEq, decide_eq_decide]; omega) | (symm; simp only [Option.some.injEq, decide_eq_false_iff_not]; omega) | (simp_all; done) | (simp_all; omega) | (rw [Option.some.injEq, eq_comm, Bool.eq_iff_iff]; simp; omega)
theorem implOpOk_tells (k : Nat) (a t x : Int) : impl_OpOk.f (k + 1) a t x = some (opB a t x) := by
  unfold impl_OpOk.f
  simp only [within_tells, implHasX_tells, implWorker_tells, Option.bind_some, impl_OpOk.j0, opB]
  simp only [decide_eq_true_eq, reduceIte, Bool.false_eq_true, bne_iff_ne, ne_eq]
  (repeat' split) <;> first | (simp only [Option.some.injEq, decide_eq_decide]; omega) | (symm; simp only [Option.some.injEq, decide_eq_false_iff_not]; omega) | (simp_all; done) | (simp_all; omega) | (rw [Option.some.injEq, eq_comm, Bool.eq_iff_iff]; simp; omega)

theorem FnExactOpOk (a t x : Int) (_ : (Lit.int .i64 a).wf = true) (_ : (Lit.int .i64 t).wf = true) (_ : (Lit.int .i64 x).wf = true) : ∃ k, laws_FnExactOpOk.f k a t x = some true := by
  refine ⟨1, ?_⟩
  unfold laws_FnExactOpOk.f laws_toOp.f
  simp only [Option.bind_some, specOpOk_tells 0, implOpOk_tells 0]
  simp

end Go.Proofs.Ytgpalgkfpkbcmaa.Pure
