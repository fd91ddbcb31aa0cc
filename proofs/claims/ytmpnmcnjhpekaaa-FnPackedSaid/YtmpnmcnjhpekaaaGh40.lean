/- A function by its code with handlers; contracts told by what they say. -/
import Derived.Test.YtmpnmcnjhpekaaaGh39
set_option linter.unusedSimpArgs false
namespace Go.Proofs.Gh
open Go Go.RowKit

noncomputable def funcL (E : Env) (dr : Nat → OT) (lp : Nat → St → Kx → Option Res) (keeps : Bool) (modes : List Mode) (c : Code) (ntmps : Nat) (rs : List ResultVar) (args : List S) : Option Res :=
  codeL E dr lp c ⟨(enter modes args []).1 ++ List.replicate (ntmps - args.length) (.one .unk), (enter modes args []).2⟩ fun e σ => match e with
    | .exit _ => none
    | _ => leaveK E keeps rs modes args σ

section
variable {P : Program} {E : Env}
theorem funcL_ok (hm : P.follows .mixedOrders = true) (hE : EnvTy P E) (hS : EnvSpec P E) {f : FuncId} {fn : Func} {c : Code} {dr : Nat → OT} {keeps : Bool} {modes : List Mode} {run : List S → Option Res} (hf : P.funcs[f]? = some fn) (hb : fn.body = some c) (hdr : drOk dr c = true)
    (hrun : ∀ xs r, modes.length = xs.length → run xs = some r → ∃ lp N, LoopsOk P (nio modes) N lp c ∧ funcL E dr lp keeps modes c fn.ntmps fn.results.toList xs = some r) : SpecOk P f ⟨modes, keeps, run⟩ := by
  intro B γ ow us xs r R hlen h
  obtain ⟨lp, N, hlp, h⟩ := hrun xs r hlen h
  have hpin : ∀ i y, B.pin i = some y → i < nio modes := fun i y hy => by
    have h1 := (R.pin i y hy).1
    have h2 := enter_nio modes xs []
    simp only [List.length_nil] at h2
    simp only at h1
    omega
  simp only [funcL] at h
  have hsz : us.length = xs.length := by
    have := R.size
    simp only [List.size_toArray] at this
    rw [this]; exact enter_len _ _ _ hlen
  refine calls_of_wp hf hb (codeL_wp (B := B) (st := B.st) (γ := γ) (ow := ow) hm hE hS hpin c (ds := []) (Q := bodyPost P fn _) (σ := ⟨(enter modes xs []).1 ++ List.replicate (fn.ntmps - xs.length) (.one .unk), (enter modes xs []).2⟩) hdr hlp ?_ rfl h ?_)
  · have := R.pad (fn.ntmps - xs.length)
    simpa [hsz] using this
  · intro e σ' γ' ow' a' w' hk R' hd
    have key := fun hk => leaveK_ok (r := r) (fn := fn) (keeps := keeps) (modes := modes) (xs := xs) hE R' hk
    cases e with
    | normal => obtain ⟨v, h1, h2⟩ := key hk; exact ⟨hd, v, h1, h2⟩
    | exit id => simp at hk
    | ret => obtain ⟨v, h1, h2⟩ := key hk; exact ⟨hd, v, h1, h2⟩
end

/-! ### Told by what they say -/
open Classical in
/-- At arguments of this form, if they are so, this result. -/
noncomputable def told {A : Type} (enc : A → List S) (pre : A → Prop) (out : A → Res) : List S → Option Res := fun xs => if h : ∃ a, pre a ∧ xs = enc a then some (out h.choose) else none
theorem told_some {A : Type} {enc : A → List S} {pre : A → Prop} {out : A → Res} {xs : List S} {r : Res} (h : told enc pre out xs = some r) : ∃ a, pre a ∧ xs = enc a ∧ r = out a := by
  unfold told at h
  split at h
  · rename_i hx
    cases h
    exact ⟨hx.choose, hx.choose_spec.1, hx.choose_spec.2, rfl⟩
  · cases h
theorem told_at {A : Type} {enc : A → List S} {pre : A → Prop} {out : A → Res} (hi : ∀ a b, enc a = enc b → out a = out b) {a : A} (ha : pre a) : told enc pre out (enc a) = some (out a) := by
  unfold told
  have hx : ∃ b, pre b ∧ enc a = enc b := ⟨a, ha, rfl⟩
  rw [dif_pos hx]
  rw [hi _ _ hx.choose_spec.2.symm]
end Go.Proofs.Gh
