/- Words: what is told reads as it is; lists of what. -/
import Derived.Test.YtmpnmcnjhpekaaaGh42
set_option linter.unusedSimpArgs false
namespace Go.Proofs.Gh
open Go Go.RowKit
@[simp] theorem cells?_one (x : C) : S.cells? false (.one x) = some [x] := rfl
@[simp] theorem cells?_agg (xs : List C) : S.cells? true (.agg xs) = some xs := rfl
@[simp] theorem asBool_bool (b : Bool) : C.asBool (C.bool b) = some b := rfl
@[simp] theorem asInt_int (n : Int) : C.asInt .i64 (C.int n) = some n := rfl
@[simp] theorem asInt_v (k : IntKind) (n : Int) : C.asInt k (C.v (.int k n)) = some n := by simp [C.asInt]
@[simp] theorem asStr_str (s : ByteArray) : C.asStr (C.str s) = some s := rfl
@[simp] theorem asRo_sl (n : Nat) (nl : Option Bool) (es : List (List C)) : C.asRo n (.sl false nl n es) = some es := by simp [C.asRo]
@[simp] theorem asOwn_sl (n : Nat) (nl : Option Bool) (es : List (List C)) : C.asOwn n (.sl true nl n es) = some (nl, es) := by simp [C.asOwn]
@[simp] theorem slice_sl (o : Bool) (n : Nat) (nl : Option Bool) (es : List (List C)) : C.slice (.sl o nl n es) = some () := rfl
@[simp] theorem parts_tup (xs : List S) : S.parts (.tup xs) = some xs := rfl
@[simp] theorem one?_one (x : C) : S.one? (.one x) = some x := rfl
@[simp] theorem bx?_bx (xs : List C) : S.bx? (.one (.bx xs)) = some xs := rfl
@[simp] theorem agg?_agg (xs : List C) : S.agg? (.agg xs) = some xs := rfl
theorem W_eq {n : Int} (h : -9223372036854775808 ≤ n) (h' : n ≤ 9223372036854775807) : W n = n := by
  show IntKind.wrap .i64 n = n
  rw [IntKind.wrap_i64]; omega
theorem B8_eq {n : Int} (h : 0 ≤ n) (h' : n ≤ 255) : B8 n = n := by
  simp only [B8, IntKind.wrap, IntKind.bits, IntKind.signed, Bool.false_and, Bool.false_eq_true, if_false]
  omega
theorem B8_mod (n : Int) : B8 n = n % 256 := by
  simp only [B8, IntKind.wrap, IntKind.bits, IntKind.signed, Bool.false_and, Bool.false_eq_true, if_false]
  omega
theorem rowsFree_map {α : Type} {f : α → List C} {l : List α} (h : ∀ x, x ∈ l → rowFree (f x) = true) : rowsFree (l.map f) = true := by
  induction l with
  | nil => rfl
  | cons a l ih => simp only [List.map_cons, rowsFree, h a (by simp), Bool.true_and]; exact ih fun x hx => h x (by simp [hx])
theorem rowsV_map {α : Type} {f : α → List C} {l : List α} (h : ∀ x, x ∈ l → (f x).all C.isV = true) : rowsV (l.map f) = true := by
  simp only [rowsV, List.all_eq_true, List.mem_map]
  rintro _ ⟨x, hx, rfl⟩
  exact List.all_eq_true.1 (h x hx)
theorem freezeRows_map {α : Type} {f g : α → List C} {l : List α} (h : ∀ x, x ∈ l → freezeRow (f x) = g x) : freezeRows (l.map f) = l.map g := by
  induction l with
  | nil => rfl
  | cons a l ih => simp only [List.map_cons, freezeRows, h a (by simp)]; congr 1; exact ih fun x hx => h x (by simp [hx])
theorem modify_map {α : Type} {f : α → List C} {g : List C → List C} {g' : α → α} {l : List α} {i : Nat} (h : ∀ x, l[i]? = some x → g (f x) = f (g' x)) : (l.map f).modify i g = (l.modify i g').map f := by
  apply List.ext_getElem?
  intro j
  rw [List.getElem?_modify, List.getElem?_map, List.getElem?_map, List.getElem?_modify]
  cases hj : l[j]? with
  | none => simp
  | some x =>
    by_cases e : i = j
    · subst e; simp [h x hj]
    · simp [e]
theorem map_inj' {α : Type} {f : α → List C} (h : ∀ a b, f a = f b → a = b) : ∀ {l l' : List α}, l.map f = l'.map f ↔ l = l' := by
  intro l l'
  constructor
  · intro e
    induction l generalizing l' with
    | nil => cases l' with
      | nil => rfl
      | cons b l' => simp at e
    | cons a l ih => cases l' with
      | nil => simp at e
      | cons b l' =>
        simp only [List.map_cons, List.cons.injEq] at e
        rw [h _ _ e.1, ih e.2]
  · intro e; rw [e]
theorem W_succ {i : Nat} (h : i < 4611686018427387904) : W ((i : Int) + 1) = ((i + 1 : Nat) : Int) := by
  rw [W_eq (by omega) (by omega)]; omega
@[simp] theorem lt_mid (a b : Nat) : (a : Int) < (a : Int) + ((b : Int) + 1) := by omega
@[simp] theorem modify_mid {α : Type} {A B : List α} {z : α} {f : α → α} {n : Nat} (h : n = A.length) : (A ++ z :: B).modify n f = A ++ f z :: B := by
  subst h
  induction A with
  | nil => rfl
  | cons a A ih => simpa using ih
@[simp] theorem get_mid {α : Type} {A B : List α} {z : α} {n : Nat} (h : n = A.length) : (A ++ z :: B)[n]? = some z := by
  subst h; simp
@[simp] theorem apNl_cons (nl : Option Bool) (r : List C) (rs : List (List C)) : apNl nl (r :: rs) = some false := by
  unfold apNl
  split
  · rfl
  · rfl
@[simp] theorem apNl_false (es : List (List C)) : apNl (some false) es = some false := rfl
theorem iter_succ {V : Type} (fb : (V → Option Res) → V → Option Res) (m : Nat) (v : V) : iterL fb (m + 1) v = fb (iterL fb m) v := rfl
end Go.Proofs.Gh
