/- FnExactStepPlain: the row, over the contract of its function: the arguments opened, the call, the arguments read again. No condition. -/
import Derived.Test.YtnnbpmemkekbfaaGreatRows
import Derived.Test.YtnnbpmemkekbfaaGreatQd
import Derived.Test.YtnnbpmemkekbfaaGreatQe
import Derived.Test.YtnnbpmemkekbfaaGreatGh44
import Derived.WalkKit
import Derived.ProofKit
import Derived.OpenShut
import Derived.ShutString
import Derived.ChangeOld
import Derived.Below
import Derived.SizedLaws
import Derived.Lib.SmallJoins
import Derived.Carry
import Derived.ChangeSlices
import Derived.Deep.Slices
import Derived.Deep.Fields
import Derived.ChangeSame
namespace Go.Proofs.YtnnbpmemkekbfaaGreat.fnExactStepPlain
open Go.ChangeShapes Go.WideShapes Go.ChangeAt Go.RowKit Go.Joins Go.Deep
set_option linter.unusedVariables false
theorem own : ownKnob Tryz.prog.godebug = none := by kernel_rfl
theorem laidOut : laidOutB Tryz.prog = true := by kernel_rfl
set_option maxRecDepth 100000 in
theorem lifted (os : Os) (started : os.Started) (H : Type) (enc : TypeId × Value → H) :
    ReturnsInHanded {} Tryz.checked os 4 .any (Rows.fnExactStepPlainSpec.pre6 enc Tryz.prog Tryz.f4 Rows.fnExactStepPlainRow.domain false) (Rows.fnExactStepPlainSpec.post enc Tryz.prog Tryz.f4 false true false false) := by
  refine returnsInHanded_of_change_sized (C := Tryz.checked) own started (by kernel_rfl) Tryz.func4
    (ChangeSpec.witness6 (enc := enc) (C := Tryz.checked) false ⟨#[], #[.agg #[.int .i64 0, .slice none 0 0], .agg #[.slice none 0 0, .slice none 0 0], .int .i64 0], []⟩ 8 (by kernel_rfl) (by kernel_rfl) (by kernel_rfl) (by kernel_rfl)) ?_
  intro W base args ds gs before hval0 hW hcnd hsz0 _
  have hval : ∀ (j : Nat) t v, Tryz.f4.params[j]? = some t → args[j]? = some v → Value.okWide Tryz.prog W .any base t v := hval0
  have hW' := hW
  obtain ⟨p, q, hA0, hV, rfl, hfz, hnd⟩ := hW
  have hA : DataW.TrodAll enc Tryz.prog W 0 (fun _ => true) true Tryz.f4.params.toList args.toList ds p := hA0
  rw [Tryz.params4] at hA hval
  obtain ⟨v0, vs0, d0, ds0, p0, q0, hargs, rfl, rfl, h0, r0⟩ := trodAll_cons hA
  obtain ⟨v1, vs1, d1, ds1, p1, q1, rfl, rfl, rfl, h1, r1⟩ := trodAll_cons r0
  obtain ⟨v2, vs2, d2, ds2, p2, q2, rfl, rfl, rfl, h2, r2⟩ := trodAll_cons r1
  obtain ⟨rfl, rfl, rfl⟩ := trodAll_nil r2
  obtain rfl : args = #[v0, v1, v2] := by cases args; simp_all
  obtain ⟨rfl, rfl⟩ := trodVars_none hV
  have k0 := h0
  have lt0 : ∀ x ∈ p0, x.block < W.heap.size := by obtain ⟨m, hm⟩ := k0; exact DataW.trod_lt m _ _ _ hm
  obtain ⟨x0, rfl, hx0⟩ := okWide_struct Tryz.underlying24 (hval 0 24 v0 rfl rfl)
  obtain ⟨fuel0, hf0⟩ := h0
  obtain ⟨c0, ht0, hl0, hr0⟩ := Gh.opened (γ := fun _ => .val []) 9 24 fuel0 _ _ (by kernel_rfl) hf0
  obtain ⟨l0, rfl, hb0⟩ := Gh.Gm.typed_prog ht0
  have s0 : Gh.SlotOk ⟨[], []⟩ (Gh.Old W) (fun _ => .val []) W (.agg x0) (.agg (Gh.Gm.encProg false l0)) := by
    have := Gh.SlotOk.agg (σ := ⟨[], []⟩) (st := Gh.Old W) (γ := fun _ => .val []) (w := W) x0.toList (Gh.Gm.encProg false l0) (by simpa [Value.cells] using hl0.symm) (fun i u c hu hc => .rep _ _ (hr0 i u c (by simpa [Value.cells] using hu) hc))
    simpa using this
  have k1 := h1
  have lt1 : ∀ x ∈ p1, x.block < W.heap.size := by obtain ⟨m, hm⟩ := k1; exact DataW.trod_lt m _ _ _ hm
  obtain ⟨x1, rfl, hx1⟩ := okWide_struct Tryz.underlying30 (hval 1 30 v1 rfl rfl)
  obtain ⟨fuel1, hf1⟩ := h1
  obtain ⟨c1, ht1, hl1, hr1⟩ := Gh.opened (γ := fun _ => .val []) 9 30 fuel1 _ _ (by kernel_rfl) hf1
  obtain ⟨l1, rfl, hb1⟩ := Gh.Gm.typed_machine ht1
  have s1 : Gh.SlotOk ⟨[], []⟩ (Gh.Old W) (fun _ => .val []) W (.agg x1) (.agg (Gh.Gm.encMa false l1)) := by
    have := Gh.SlotOk.agg (σ := ⟨[], []⟩) (st := Gh.Old W) (γ := fun _ => .val []) (w := W) x1.toList (Gh.Gm.encMa false l1) (by simpa [Value.cells] using hl1.symm) (fun i u c hu hc => .rep _ _ (hr1 i u c (by simpa [Value.cells] using hu) hc))
    simpa using this
  have k2 := h2
  have lt2 : ∀ x ∈ p2, x.block < W.heap.size := by obtain ⟨m, hm⟩ := k2; exact DataW.trod_lt m _ _ _ hm
  obtain ⟨n2, rfl⟩ := okWide_int Tryz.underlying3 (hval 2 3 v2 rfl rfl)
  have hb2 : (Lit.int .i64 n2).wf = true := by obtain ⟨fuel, hf⟩ := h2; obtain ⟨m, e, _, hw⟩ := DataW.trod_int Tryz.underlying3 hf; simp [Value.cells] at e; rw [e]; exact hw
  have s2 : Gh.SlotOk ⟨[], []⟩ (Gh.Old W) (fun _ => .val []) W (.int .i64 n2) (.one _) := Gh.slotV _ rfl
  refine (Gh.law_calls (γ := fun _ => .val []) Gh.Gm.okwFnExactStepPlain.1 rfl (us := [.agg x0, .agg x1, .int .i64 n2]) (xs := [_, _, _]) rfl rfl (fun i u s hu hs => ?_) (Gh.Gm.FwFnExactStepPlain_at l0 l1 n2 ⟨hb0, hb1.1, hb1.2⟩)).mono fun e W' ⟨he, bel⟩ => ?_
  · match i, hu, hs with
    | 0, hu, hs => simp at hu hs; subst hu hs; exact s0
    | 1, hu, hs => simp at hu hs; subst hu hs; exact s1
    | 2, hu, hs => simp at hu hs; subst hu hs; exact s2
    | i + 3, hu, hs => simp at hu
  · subst he
    exact ⟨_, rfl, _, _, _, [], _, [], hW', trodAll_mk1 (shut_bool Tryz.underlying4 _), (trodAll_cons_mk (Below.trod laidOut (by kernel_rfl) (of_decide_eq_true (by kernel_rfl)) k0 bel lt0) (trodAll_cons_mk (Below.trod laidOut (by kernel_rfl) (of_decide_eq_true (by kernel_rfl)) k1 bel lt1) (trodAll_cons_mk (Below.trod laidOut (by kernel_rfl) (of_decide_eq_true (by kernel_rfl)) k2 bel lt2) trodAll_mk0))), rfl, bel.frame _, fun h => by cases h⟩
theorem over : Rows.fnExactStepPlainRow.holds Tryz.pinned (OpenSpec.ofChange Rows.fnExactStepPlainSpec) :=
  OpenClaim.holds_of_wide 4 Tryz.f4 rfl rfl rfl rfl rfl rfl rfl ⟨rfl, rfl, rfl, rfl, rfl⟩ rfl rfl rfl rfl rfl (by kernel_rfl) Tryz.func4 (by kernel_rfl)
    (of_decide_eq_true (by kernel_rfl)) (by unfold Func.isWrapper; first | (rw [if_pos (by decide +kernel)]; kernel_rfl) | (rw [if_neg (by decide +kernel)]; exact ⟨rfl, rfl⟩))
    (fun os started H enc _ => lifted os started H enc)
end Go.Proofs.YtnnbpmemkekbfaaGreat.fnExactStepPlain
namespace Go.Proofs.YtnnbpmemkekbfaaGreat
theorem fnExactStepPlain_holds : Rows.FnExactStepPlainSaid := fnExactStepPlain.over
#print axioms fnExactStepPlain_holds
end Go.Proofs.YtnnbpmemkekbfaaGreat
