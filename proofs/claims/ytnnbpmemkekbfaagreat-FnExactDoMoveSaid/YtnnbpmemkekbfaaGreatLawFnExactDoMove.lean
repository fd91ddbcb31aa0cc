/- FnExactDoMove: the row, over the contract of its function: the arguments opened, the call, the arguments read again. No condition. -/
import Derived.Test.YtnnbpmemkekbfaaGreatRows
import Derived.Test.YtnnbpmemkekbfaaGreatQd
import Derived.Test.YtnnbpmemkekbfaaGreatQe
import Derived.Test.YtnnbpmemkekbfaaGreatGh44
import Derived.WalkKit
import Derived.ProofKit
import Derived.OpenShut
import Derived.ShutString
import Derived.ChangeOld
import Derived.Below
import Derived.SizedLaws
import Derived.Lib.SmallJoins
import Derived.Carry
import Derived.ChangeSlices
import Derived.Deep.Slices
import Derived.Deep.Fields
import Derived.ChangeSame
namespace Go.Proofs.YtnnbpmemkekbfaaGreat.fnExactDoMove
open Go.ChangeShapes Go.WideShapes Go.ChangeAt Go.RowKit Go.Joins Go.Deep
set_option linter.unusedVariables false
theorem own : ownKnob Tryz.prog.godebug = none := by kernel_rfl
theorem laidOut : laidOutB Tryz.prog = true := by kernel_rfl
set_option maxRecDepth 100000 in
theorem lifted (os : Os) (started : os.Started) (H : Type) (enc : TypeId × Value → H) :
    ReturnsInHanded {} Tryz.checked os 3 .any (Rows.fnExactDoMoveSpec.pre6 enc Tryz.prog Tryz.f3 Rows.fnExactDoMoveRow.domain false) (Rows.fnExactDoMoveSpec.post enc Tryz.prog Tryz.f3 false true false false) := by
  refine returnsInHanded_of_change_sized (C := Tryz.checked) own started (by kernel_rfl) Tryz.func3
    (ChangeSpec.witness6 (enc := enc) (C := Tryz.checked) false ⟨#[], #[.agg #[.int .i64 0, .slice none 0 0], .agg #[.slice none 0 0, .slice none 0 0], .agg #[.int .i64 0, .bool false]], []⟩ 8 (by kernel_rfl) (by kernel_rfl) (by kernel_rfl) (by kernel_rfl)) ?_
  intro W base args ds gs before hval0 hW hcnd hsz0 _
  have hval : ∀ (j : Nat) t v, Tryz.f3.params[j]? = some t → args[j]? = some v → Value.okWide Tryz.prog W .any base t v := hval0
  have hW' := hW
  obtain ⟨p, q, hA0, hV, rfl, hfz, hnd⟩ := hW
  have hA : DataW.TrodAll enc Tryz.prog W 0 (fun _ => true) true Tryz.f3.params.toList args.toList ds p := hA0
  rw [Tryz.params3] at hA hval
  obtain ⟨v0, vs0, d0, ds0, p0, q0, hargs, rfl, rfl, h0, r0⟩ := trodAll_cons hA
  obtain ⟨v1, vs1, d1, ds1, p1, q1, rfl, rfl, rfl, h1, r1⟩ := trodAll_cons r0
  obtain ⟨v2, vs2, d2, ds2, p2, q2, rfl, rfl, rfl, h2, r2⟩ := trodAll_cons r1
  obtain ⟨rfl, rfl, rfl⟩ := trodAll_nil r2
  obtain rfl : args = #[v0, v1, v2] := by cases args; simp_all
  obtain ⟨rfl, rfl⟩ := trodVars_none hV
  have k0 := h0
  have lt0 : ∀ x ∈ p0, x.block < W.heap.size := by obtain ⟨m, hm⟩ := k0; exact DataW.trod_lt m _ _ _ hm
  obtain ⟨x0, rfl, hx0⟩ := okWide_struct Tryz.underlying24 (hval 0 24 v0 rfl rfl)
  obtain ⟨fuel0, hf0⟩ := h0
  obtain ⟨c0, ht0, hl0, hr0⟩ := Gh.opened (γ := fun _ => .val []) 9 24 fuel0 _ _ (by kernel_rfl) hf0
  obtain ⟨l0, rfl, hb0⟩ := Gh.Gm.typed_prog ht0
  have s0 : Gh.SlotOk ⟨[], []⟩ (Gh.Old W) (fun _ => .val []) W (.agg x0) (.agg (Gh.Gm.encProg false l0)) := by
    have := Gh.SlotOk.agg (σ := ⟨[], []⟩) (st := Gh.Old W) (γ := fun _ => .val []) (w := W) x0.toList (Gh.Gm.encProg false l0) (by simpa [Value.cells] using hl0.symm) (fun i u c hu hc => .rep _ _ (hr0 i u c (by simpa [Value.cells] using hu) hc))
    simpa using this
  have k1 := h1
  have lt1 : ∀ x ∈ p1, x.block < W.heap.size := by obtain ⟨m, hm⟩ := k1; exact DataW.trod_lt m _ _ _ hm
  obtain ⟨x1, rfl, hx1⟩ := okWide_struct Tryz.underlying30 (hval 1 30 v1 rfl rfl)
  obtain ⟨fuel1, hf1⟩ := h1
  obtain ⟨c1, ht1, hl1, hr1⟩ := Gh.opened (γ := fun _ => .val []) 9 30 fuel1 _ _ (by kernel_rfl) hf1
  obtain ⟨l1, rfl, hb1⟩ := Gh.Gm.typed_machine ht1
  have s1 : Gh.SlotOk ⟨[], []⟩ (Gh.Old W) (fun _ => .val []) W (.agg x1) (.agg (Gh.Gm.encMa false l1)) := by
    have := Gh.SlotOk.agg (σ := ⟨[], []⟩) (st := Gh.Old W) (γ := fun _ => .val []) (w := W) x1.toList (Gh.Gm.encMa false l1) (by simpa [Value.cells] using hl1.symm) (fun i u c hu hc => .rep _ _ (hr1 i u c (by simpa [Value.cells] using hu) hc))
    simpa using this
  have k2 := h2
  have lt2 : ∀ x ∈ p2, x.block < W.heap.size := by obtain ⟨m, hm⟩ := k2; exact DataW.trod_lt m _ _ _ hm
  obtain ⟨x2, rfl, hx2⟩ := okWide_struct Tryz.underlying32 (hval 2 32 v2 rfl rfl)
  obtain ⟨fuel2, hf2⟩ := h2
  obtain ⟨c2, ht2, hl2, hr2⟩ := Gh.opened (γ := fun _ => .val []) 9 32 fuel2 _ _ (by kernel_rfl) hf2
  obtain ⟨l2, rfl, hb2⟩ := Gh.Gm.typed_move ht2
  have s2 : Gh.SlotOk ⟨[], []⟩ (Gh.Old W) (fun _ => .val []) W (.agg x2) (.agg (Gh.Gm.encMove l2)) := by
    have := Gh.SlotOk.agg (σ := ⟨[], []⟩) (st := Gh.Old W) (γ := fun _ => .val []) (w := W) x2.toList (Gh.Gm.encMove l2) (by simpa [Value.cells] using hl2.symm) (fun i u c hu hc => .rep _ _ (hr2 i u c (by simpa [Value.cells] using hu) hc))
    simpa using this
  refine (Gh.law_calls (γ := fun _ => .val []) Gh.Gm.okwFnExactDoMove.1 rfl (us := [.agg x0, .agg x1, .agg x2]) (xs := [_, _, _]) rfl rfl (fun i u s hu hs => ?_) (Gh.Gm.FwFnExactDoMove_at l0 l1 l2.t l2.drain ⟨hb0, hb1.1, hb1.2⟩)).mono fun e W' ⟨he, bel⟩ => ?_
  · match i, hu, hs with
    | 0, hu, hs => simp at hu hs; subst hu hs; exact s0
    | 1, hu, hs => simp at hu hs; subst hu hs; exact s1
    | 2, hu, hs => simp at hu hs; subst hu hs; exact s2
    | i + 3, hu, hs => simp at hu
  · subst he
    exact ⟨_, rfl, _, _, _, [], _, [], hW', trodAll_mk1 (shut_bool Tryz.underlying4 _), (trodAll_cons_mk (Below.trod laidOut (by kernel_rfl) (of_decide_eq_true (by kernel_rfl)) k0 bel lt0) (trodAll_cons_mk (Below.trod laidOut (by kernel_rfl) (of_decide_eq_true (by kernel_rfl)) k1 bel lt1) (trodAll_cons_mk (Below.trod laidOut (by kernel_rfl) (of_decide_eq_true (by kernel_rfl)) k2 bel lt2) trodAll_mk0))), rfl, bel.frame _, fun h => by cases h⟩
theorem over : Rows.fnExactDoMoveRow.holds Tryz.pinned (OpenSpec.ofChange Rows.fnExactDoMoveSpec) :=
  OpenClaim.holds_of_wide 3 Tryz.f3 rfl rfl rfl rfl rfl rfl rfl ⟨rfl, rfl, rfl, rfl, rfl⟩ rfl rfl rfl rfl rfl (by kernel_rfl) Tryz.func3 (by kernel_rfl)
    (of_decide_eq_true (by kernel_rfl)) (by unfold Func.isWrapper; first | (rw [if_pos (by decide +kernel)]; kernel_rfl) | (rw [if_neg (by decide +kernel)]; exact ⟨rfl, rfl⟩))
    (fun os started H enc _ => lifted os started H enc)
end Go.Proofs.YtnnbpmemkekbfaaGreat.fnExactDoMove
namespace Go.Proofs.YtnnbpmemkekbfaaGreat
theorem fnExactDoMove_holds : Rows.FnExactDoMoveSaid := fnExactDoMove.over
#print axioms fnExactDoMove_holds
end Go.Proofs.YtnnbpmemkekbfaaGreat
