/- FnExactWiden: the row, over the contract of its function: the arguments opened, the call, the arguments read again. No condition. -/
import Derived.Test.YtbapnhdmhbkbpaaRows
import Derived.Test.YtbapnhdmhbkbpaaGc
import Derived.Test.YtbapnhdmhbkbpaaGh44
import Derived.WalkKit
import Derived.ProofKit
import Derived.OpenShut
import Derived.ShutString
import Derived.ChangeOld
import Derived.Below
import Derived.SizedLaws
import Derived.Lib.SmallJoins
import Derived.Carry
import Derived.ChangeSlices
import Derived.Deep.Slices
import Derived.Deep.Fields
import Derived.ChangeSame
namespace Go.Proofs.Ytbapnhdmhbkbpaa.fnExactWiden
open Go.ChangeShapes Go.WideShapes Go.ChangeAt Go.RowKit Go.Joins Go.Deep
set_option linter.unusedVariables false
theorem own : ownKnob Try.prog.godebug = none := by kernel_rfl
theorem laidOut : laidOutB Try.prog = true := by kernel_rfl
set_option maxRecDepth 100000 in
theorem lifted (os : Os) (started : os.Started) (H : Type) (enc : TypeId × Value → H) :
    ReturnsInHanded {} Try.checked os 4 .any (Rows.fnExactWidenSpec.pre6 enc Try.prog Try.f4 Rows.fnExactWidenRow.domain false) (Rows.fnExactWidenSpec.post enc Try.prog Try.f4 false true false false) := by
  refine returnsInHanded_of_change_sized (C := Try.checked) own started (by kernel_rfl) Try.func4
    (ChangeSpec.witness6 (enc := enc) (C := Try.checked) false ⟨#[], #[.slice none 0 0, .int .i64 0], []⟩ 8 (by kernel_rfl) (by kernel_rfl) (by kernel_rfl) (by kernel_rfl)) ?_
  intro W base args ds gs before hval0 hW hcnd hsz0 _
  have hval : ∀ (j : Nat) t v, Try.f4.params[j]? = some t → args[j]? = some v → Value.okWide Try.prog W .any base t v := hval0
  have hW' := hW
  obtain ⟨p, q, hA0, hV, rfl, hfz, hnd⟩ := hW
  have hA : DataW.TrodAll enc Try.prog W 0 (fun _ => true) true Try.f4.params.toList args.toList ds p := hA0
  rw [Try.params4] at hA hval
  obtain ⟨v0, vs0, d0, ds0, p0, q0, hargs, rfl, rfl, h0, r0⟩ := trodAll_cons hA
  obtain ⟨v1, vs1, d1, ds1, p1, q1, rfl, rfl, rfl, h1, r1⟩ := trodAll_cons r0
  obtain ⟨rfl, rfl, rfl⟩ := trodAll_nil r1
  obtain rfl : args = #[v0, v1] := by cases args; simp_all
  obtain ⟨rfl, rfl⟩ := trodVars_none hV
  have k0 := h0
  have lt0 : ∀ x ∈ p0, x.block < W.heap.size := by obtain ⟨m, hm⟩ := k0; exact DataW.trod_lt m _ _ _ hm
  obtain ⟨a0, len0, cap0, rfl⟩ := okWide_slice Try.underlying22 (hval 0 22 v0 rfl rfl)
  obtain ⟨fuel0, hf0⟩ := h0
  obtain ⟨c0, ht0, _, hr0⟩ := Gh.opened (γ := fun _ => .val []) 9 22 fuel0 _ _ (by kernel_rfl) hf0
  obtain ⟨nl0, l0, rfl, hb0⟩ := Gh.Gm.typed22 ht0
  have s0 : Gh.SlotOk ⟨[], []⟩ (Gh.Old W) (fun _ => .val []) W (.slice a0 len0 cap0) (.one _) := .one _ _ (.rep _ _ (hr0 0 _ _ (by simp [Value.cells]) rfl))
  have k1 := h1
  have lt1 : ∀ x ∈ p1, x.block < W.heap.size := by obtain ⟨m, hm⟩ := k1; exact DataW.trod_lt m _ _ _ hm
  obtain ⟨n1, rfl⟩ := okWide_int Try.underlying3 (hval 1 3 v1 rfl rfl)
  have hb1 : (Lit.int .i64 n1).wf = true := by obtain ⟨fuel, hf⟩ := h1; obtain ⟨m, e, _, hw⟩ := DataW.trod_int Try.underlying3 hf; simp [Value.cells] at e; rw [e]; exact hw
  have s1 : Gh.SlotOk ⟨[], []⟩ (Gh.Old W) (fun _ => .val []) W (.int .i64 n1) (.one _) := Gh.slotV _ rfl
  refine (Gh.law_calls (γ := fun _ => .val []) Gh.Gm.ok4 rfl (us := [.slice a0 len0 cap0, .int .i64 n1]) (xs := [_, _]) rfl rfl (fun i u s hu hs => ?_) (Gh.Gm.F4_at nl0 l0 n1 hb0)).mono fun e W' ⟨he, bel⟩ => ?_
  · match i, hu, hs with
    | 0, hu, hs => simp at hu hs; subst hu hs; exact s0
    | 1, hu, hs => simp at hu hs; subst hu hs; exact s1
    | i + 2, hu, hs => simp at hu
  · subst he
    exact ⟨_, rfl, _, _, _, [], _, [], hW', trodAll_mk1 (shut_bool Try.underlying4 _), (trodAll_cons_mk (Below.trod laidOut (by kernel_rfl) (of_decide_eq_true (by kernel_rfl)) k0 bel lt0) (trodAll_cons_mk (Below.trod laidOut (by kernel_rfl) (of_decide_eq_true (by kernel_rfl)) k1 bel lt1) trodAll_mk0)), rfl, bel.frame _, fun h => by cases h⟩
theorem over : Rows.fnExactWidenRow.holds Try.pinned (OpenSpec.ofChange Rows.fnExactWidenSpec) :=
  OpenClaim.holds_of_wide 4 Try.f4 rfl rfl rfl rfl rfl rfl rfl ⟨rfl, rfl, rfl, rfl, rfl⟩ rfl rfl rfl rfl rfl (by kernel_rfl) Try.func4 (by kernel_rfl)
    (of_decide_eq_true (by kernel_rfl)) (by unfold Func.isWrapper; first | (rw [if_pos (by decide +kernel)]; kernel_rfl) | (rw [if_neg (by decide +kernel)]; exact ⟨rfl, rfl⟩))
    (fun os started H enc _ => lifted os started H enc)
end Go.Proofs.Ytbapnhdmhbkbpaa.fnExactWiden
namespace Go.Proofs.Ytbapnhdmhbkbpaa
theorem fnExactWiden_holds : Rows.FnExactWidenSaid := fnExactWiden.over
#print axioms fnExactWiden_holds
end Go.Proofs.Ytbapnhdmhbkbpaa
