/- FnPacked: the row, over the contract of its function: the arguments opened, the call, the arguments read again. No condition. -/
import Derived.Test.YtmpnmcnjhpekaaaRows
import Derived.Test.YtmpnmcnjhpekaaaRc
import Derived.Test.YtmpnmcnjhpekaaaGh44
import Derived.WalkKit
import Derived.ProofKit
import Derived.OpenShut
import Derived.ShutString
import Derived.ChangeOld
import Derived.Below
import Derived.SizedLaws
import Derived.Lib.SmallJoins
import Derived.Carry
import Derived.ChangeSlices
import Derived.Deep.Slices
import Derived.Deep.Fields
import Derived.ChangeSame
namespace Go.Proofs.Ytmpnmcnjhpekaaa.fnPacked
open Go.ChangeShapes Go.WideShapes Go.ChangeAt Go.RowKit Go.Joins Go.Deep
set_option linter.unusedVariables false
theorem own : ownKnob Try.prog.godebug = none := by kernel_rfl
theorem laidOut : laidOutB Try.prog = true := by kernel_rfl
set_option maxRecDepth 100000 in
theorem lifted (os : Os) (started : os.Started) (H : Type) (enc : TypeId × Value → H) :
    ReturnsInHanded {} Try.checked os 6 .any (Rows.fnPackedSpec.pre6 enc Try.prog Try.f6 Rows.fnPackedRow.domain false) (Rows.fnPackedSpec.post enc Try.prog Try.f6 false true false false) := by
  refine returnsInHanded_of_change_sized (C := Try.checked) own started (by kernel_rfl) Try.func6
    (ChangeSpec.witness6 (enc := enc) (C := Try.checked) false ⟨#[], #[.slice none 0 0], []⟩ 8 (by kernel_rfl) (by kernel_rfl) (by kernel_rfl) (by kernel_rfl)) ?_
  intro W base args ds gs before hval0 hW hcnd hsz0 _
  have hval : ∀ (j : Nat) t v, Try.f6.params[j]? = some t → args[j]? = some v → Value.okWide Try.prog W .any base t v := hval0
  have hW' := hW
  obtain ⟨p, q, hA0, hV, rfl, hfz, hnd⟩ := hW
  have hA : DataW.TrodAll enc Try.prog W 0 (fun _ => true) true Try.f6.params.toList args.toList ds p := hA0
  rw [Try.params6] at hA hval
  obtain ⟨v0, vs0, d0, ds0, p0, q0, hargs, rfl, rfl, h0, r0⟩ := trodAll_cons hA
  obtain ⟨rfl, rfl, rfl⟩ := trodAll_nil r0
  obtain rfl : args = #[v0] := by cases args; simp_all
  obtain ⟨rfl, rfl⟩ := trodVars_none hV
  have k0 := h0
  have lt0 : ∀ x ∈ p0, x.block < W.heap.size := by obtain ⟨m, hm⟩ := k0; exact DataW.trod_lt m _ _ _ hm
  obtain ⟨a0, len0, cap0, rfl⟩ := okWide_slice Try.underlying38 (hval 0 38 v0 rfl rfl)
  obtain ⟨fuel0, hf0⟩ := h0
  obtain ⟨c0, ht0, _, hr0⟩ := Gh.opened (γ := fun _ => .val []) 9 38 fuel0 _ _ (by kernel_rfl) hf0
  obtain ⟨nl0, l0, rfl, hb0⟩ := Gh.Gm.typed_bytesB ht0
  have s0 : Gh.SlotOk ⟨[], []⟩ (Gh.Old W) (fun _ => .val []) W (.slice a0 len0 cap0) (.one _) := .one _ _ (.rep _ _ (hr0 0 _ _ (by simp [Value.cells]) rfl))
  refine (Gh.law_calls (γ := fun _ => .val []) Gh.Gm.okwFnPacked.1 rfl (us := [.slice a0 len0 cap0]) (xs := [_]) rfl rfl (fun i u s hu hs => ?_) (fun x hx => by cases hx) (Gh.Gm.FwFnPacked_at nl0 l0 hb0)).mono fun e W' ⟨he, bel⟩ => ?_
  · match i, hu, hs with
    | 0, hu, hs => simp at hu hs; subst hu hs; exact s0
    | i + 1, hu, hs => simp at hu
  · subst he
    exact ⟨_, rfl, _, _, _, [], _, [], hW', trodAll_mk1 (shut_bool Try.underlying4 _), (trodAll_cons_mk (Below.trod laidOut (by kernel_rfl) (of_decide_eq_true (by kernel_rfl)) k0 bel lt0) trodAll_mk0), rfl, bel.frame _, fun h => by cases h⟩
theorem over : Rows.fnPackedRow.holds Try.pinned (OpenSpec.ofChange Rows.fnPackedSpec) :=
  OpenClaim.holds_of_wide 6 Try.f6 rfl rfl rfl rfl rfl rfl rfl ⟨rfl, rfl, rfl, rfl, rfl⟩ rfl rfl rfl rfl rfl (by kernel_rfl) Try.func6 (by kernel_rfl)
    (of_decide_eq_true (by kernel_rfl)) (by unfold Func.isWrapper; first | (rw [if_pos (by decide +kernel)]; kernel_rfl) | (rw [if_neg (by decide +kernel)]; exact ⟨rfl, rfl⟩))
    (fun os started H enc _ => lifted os started H enc)
end Go.Proofs.Ytmpnmcnjhpekaaa.fnPacked
namespace Go.Proofs.Ytmpnmcnjhpekaaa
theorem fnPacked_holds : Rows.FnPackedSaid := fnPacked.over
#print axioms fnPacked_holds
end Go.Proofs.Ytmpnmcnjhpekaaa
