/- FnExactRunMoves: the row, over the contract of its function: the arguments opened, the call, the arguments read again. No condition. -/
import Derived.Test.YtnnbpmemkekbfaaRows
import Derived.Test.YtnnbpmemkekbfaaQc
import Derived.Test.YtnnbpmemkekbfaaQd
import Derived.Test.YtnnbpmemkekbfaaGh44
import Derived.WalkKit
import Derived.ProofKit
import Derived.OpenShut
import Derived.ShutString
import Derived.ChangeOld
import Derived.Below
import Derived.SizedLaws
import Derived.Lib.SmallJoins
import Derived.Carry
import Derived.ChangeSlices
import Derived.Deep.Slices
import Derived.Deep.Fields
import Derived.ChangeSame
namespace Go.Proofs.Ytnnbpmemkekbfaa.fnExactRunMoves
open Go.ChangeShapes Go.WideShapes Go.ChangeAt Go.RowKit Go.Joins Go.Deep
set_option linter.unusedVariables false
theorem own : ownKnob Try.prog.godebug = none := by kernel_rfl
theorem laidOut : laidOutB Try.prog = true := by kernel_rfl
set_option maxRecDepth 100000 in
theorem lifted (os : Os) (started : os.Started) (H : Type) (enc : TypeId × Value → H) :
    ReturnsInHanded {} Try.checked os 4 .any (Rows.fnExactRunMovesSpec.pre6 enc Try.prog Try.f4 Rows.fnExactRunMovesRow.domain false) (Rows.fnExactRunMovesSpec.post enc Try.prog Try.f4 false true false false) := by
  refine returnsInHanded_of_change_sized (C := Try.checked) own started (by kernel_rfl) Try.func4
    (ChangeSpec.witness6 (enc := enc) (C := Try.checked) false ⟨#[], #[.agg #[.int .i64 0, .slice none 0 0], .slice none 0 0], []⟩ 8 (by kernel_rfl) (by kernel_rfl) (by kernel_rfl) (by kernel_rfl)) ?_
  intro W base args ds gs before hval0 hW hcnd hsz0 _
  have hval : ∀ (j : Nat) t v, Try.f4.params[j]? = some t → args[j]? = some v → Value.okWide Try.prog W .any base t v := hval0
  have hW' := hW
  obtain ⟨p, q, hA0, hV, rfl, hfz, hnd⟩ := hW
  have hA : DataW.TrodAll enc Try.prog W 0 (fun _ => true) true Try.f4.params.toList args.toList ds p := hA0
  rw [Try.params4] at hA hval
  obtain ⟨v0, vs0, d0, ds0, p0, q0, hargs, rfl, rfl, h0, r0⟩ := trodAll_cons hA
  obtain ⟨v1, vs1, d1, ds1, p1, q1, rfl, rfl, rfl, h1, r1⟩ := trodAll_cons r0
  obtain ⟨rfl, rfl, rfl⟩ := trodAll_nil r1
  obtain rfl : args = #[v0, v1] := by cases args; simp_all
  obtain ⟨rfl, rfl⟩ := trodVars_none hV
  have k0 := h0
  have lt0 : ∀ x ∈ p0, x.block < W.heap.size := by obtain ⟨m, hm⟩ := k0; exact DataW.trod_lt m _ _ _ hm
  obtain ⟨x0, rfl, hx0⟩ := okWide_struct Try.underlying50 (hval 0 50 v0 rfl rfl)
  obtain ⟨fuel0, hf0⟩ := h0
  obtain ⟨c0, ht0, hl0, hr0⟩ := Gh.opened (γ := fun _ => .val []) 9 50 fuel0 _ _ (by kernel_rfl) hf0
  obtain ⟨l0, rfl, hb0⟩ := Gh.Gm.typed_prog ht0
  have s0 : Gh.SlotOk ⟨[], []⟩ (Gh.Old W) (fun _ => .val []) W (.agg x0) (.agg (Gh.Gm.encProg false l0)) := by
    have := Gh.SlotOk.agg (σ := ⟨[], []⟩) (st := Gh.Old W) (γ := fun _ => .val []) (w := W) x0.toList (Gh.Gm.encProg false l0) (by simpa [Value.cells] using hl0.symm) (fun i u c hu hc => .rep _ _ (hr0 i u c (by simpa [Value.cells] using hu) hc))
    simpa using this
  have k1 := h1
  have lt1 : ∀ x ∈ p1, x.block < W.heap.size := by obtain ⟨m, hm⟩ := k1; exact DataW.trod_lt m _ _ _ hm
  obtain ⟨a1, len1, cap1, rfl⟩ := okWide_slice Try.underlying51 (hval 1 51 v1 rfl rfl)
  obtain ⟨fuel1, hf1⟩ := h1
  obtain ⟨c1, ht1, _, hr1⟩ := Gh.opened (γ := fun _ => .val []) 9 51 fuel1 _ _ (by kernel_rfl) hf1
  obtain ⟨nl1, l1, rfl, hb1⟩ := Gh.Gm.typed_moves ht1
  have s1 : Gh.SlotOk ⟨[], []⟩ (Gh.Old W) (fun _ => .val []) W (.slice a1 len1 cap1) (.one _) := .one _ _ (.rep _ _ (hr1 0 _ _ (by simp [Value.cells]) rfl))
  refine (Gh.law_calls (γ := fun _ => .val []) Gh.Gm.okwFnExactRunMoves.1 rfl (us := [.agg x0, .slice a1 len1 cap1]) (xs := [_, _]) rfl rfl (fun i u s hu hs => ?_) (Gh.Gm.FwFnExactRunMoves_at l0 nl1 l1 ⟨hb0, hb1⟩)).mono fun e W' ⟨he, bel⟩ => ?_
  · match i, hu, hs with
    | 0, hu, hs => simp at hu hs; subst hu hs; exact s0
    | 1, hu, hs => simp at hu hs; subst hu hs; exact s1
    | i + 2, hu, hs => simp at hu
  · subst he
    exact ⟨_, rfl, _, _, _, [], _, [], hW', trodAll_mk1 (shut_bool Try.underlying4 _), (trodAll_cons_mk (Below.trod laidOut (by kernel_rfl) (of_decide_eq_true (by kernel_rfl)) k0 bel lt0) (trodAll_cons_mk (Below.trod laidOut (by kernel_rfl) (of_decide_eq_true (by kernel_rfl)) k1 bel lt1) trodAll_mk0)), rfl, bel.frame _, fun h => by cases h⟩
theorem over : Rows.fnExactRunMovesRow.holds Try.pinned (OpenSpec.ofChange Rows.fnExactRunMovesSpec) :=
  OpenClaim.holds_of_wide 4 Try.f4 rfl rfl rfl rfl rfl rfl rfl ⟨rfl, rfl, rfl, rfl, rfl⟩ rfl rfl rfl rfl rfl (by kernel_rfl) Try.func4 (by kernel_rfl)
    (of_decide_eq_true (by kernel_rfl)) (by unfold Func.isWrapper; first | (rw [if_pos (by decide +kernel)]; kernel_rfl) | (rw [if_neg (by decide +kernel)]; exact ⟨rfl, rfl⟩))
    (fun os started H enc _ => lifted os started H enc)
end Go.Proofs.Ytnnbpmemkekbfaa.fnExactRunMoves
namespace Go.Proofs.Ytnnbpmemkekbfaa
theorem fnExactRunMoves_holds : Rows.FnExactRunMovesSaid := fnExactRunMoves.over
#print axioms fnExactRunMoves_holds
end Go.Proofs.Ytnnbpmemkekbfaa
