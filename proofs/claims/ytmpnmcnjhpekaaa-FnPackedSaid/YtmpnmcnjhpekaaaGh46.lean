/- Functions told by their own run: loops by shapes, what is printed in short words. -/
import Derived.Test.YtmpnmcnjhpekaaaGh43
set_option linter.unusedSimpArgs false
namespace Go.Proofs.Gh
open Go Go.RowKit

/-! ### What is not opened -/
noncomputable def veil {α : Type} (f : α) : α := Classical.choose (⟨f, rfl⟩ : ∃ g, g = f)
theorem veil_eq {α : Type} (f : α) : veil f = f := Classical.choose_spec (⟨f, rfl⟩ : ∃ g, g = f)
noncomputable def FUEL : Nat := veil 18446744073709551616
theorem FUEL_eq : FUEL = 18446744073709551616 := veil_eq _

/-! ### Contents by their kinds, one after the other -/
@[reducible] def Cur : List CK → Type → Type
  | [], T => T
  | .int _ :: ks, T => Int → Cur ks T
  | .bool :: ks, T => Bool → Cur ks T
  | .str :: ks, T => ByteArray → Cur ks T
  | .sl _ :: ks, T => Option Bool → List (List C) → Cur ks T
  | .other :: ks, T => C → Cur ks T
/-- Of something that is only read. -/
def tRo : (ks : List CK) → List C → Cur ks (Option Res) → Option Res
  | [], _, k => k
  | .int ki :: ks, cs, k => (cs.head?).bind fun c => (c.asInt ki).bind fun n => tRo ks cs.tail (k n)
  | .bool :: ks, cs, k => (cs.head?).bind fun c => c.asBool.bind fun b => tRo ks cs.tail (k b)
  | .str :: ks, cs, k => (cs.head?).bind fun c => c.asStr.bind fun s => tRo ks cs.tail (k s)
  | .sl n :: ks, cs, k => (cs.head?).bind fun c => (c.asRo n).bind fun es => tRo ks cs.tail (k none es)
  | .other :: ks, cs, k => (cs.head?).bind fun c => tRo ks cs.tail (k c)
/-- Of a tree's own row: slices are told by their places. -/
def tOwn : (ks : List CK) → List C → Cur (ks.filter CK.plain) (Option Res) → Option Res
  | [], _, k => k
  | .int ki :: ks, cs, k => (cs.head?).bind fun c => (c.asInt ki).bind fun n => tOwn ks cs.tail (k n)
  | .bool :: ks, cs, k => (cs.head?).bind fun c => c.asBool.bind fun b => tOwn ks cs.tail (k b)
  | .str :: ks, cs, k => (cs.head?).bind fun c => c.asStr.bind fun s => tOwn ks cs.tail (k s)
  | .sl _ :: ks, cs, k => (cs.head?).bind fun c => c.slice.bind fun _ => tOwn ks cs.tail k
  | .other :: _, _, _ => none
/-- Of a result. -/
def tRes {T : Type} (f : T → Option Res) : (ks : List CK) → List C → Cur ks T → Option Res
  | [], _, k => f k
  | .int ki :: ks, cs, k => (cs.head?).bind fun c => (c.asInt ki).bind fun n => tRes f ks cs.tail (k n)
  | .bool :: ks, cs, k => (cs.head?).bind fun c => c.asBool.bind fun b => tRes f ks cs.tail (k b)
  | .str :: ks, cs, k => (cs.head?).bind fun c => c.asStr.bind fun s => tRes f ks cs.tail (k s)
  | .sl n :: ks, cs, k => (cs.head?).bind fun c => (c.asOwn n).bind fun d => tRes f ks cs.tail (k d.1 d.2)
  | .other :: ks, cs, k => (cs.head?).bind fun c => tRes f ks cs.tail (k c)
@[reducible] def CurP : List (Bool × List CK) → Type
  | [] => Option Res
  | p :: ps => Cur p.2 (CurP ps)
def tOne {T : Type} (f : T → Option Res) (agg : Bool) (ks : List CK) (s : S) (k : Cur ks T) : Option Res := (s.cells? agg).bind fun cs => if cs.length = ks.length then tRes f ks cs k else none
def tParts : (ps : List (Bool × List CK)) → List S → CurP ps → Option Res
  | [], _, k => k
  | p :: ps, ss, k => (ss.head?).bind fun s => tOne (tParts ps ss.tail) p.1 p.2 s k
def tTup (ps : List (Bool × List CK)) (s : S) (k : CurP ps) : Option Res := (s.parts).bind fun ss => if ss.length = ps.length then tParts ps ss k else none
@[reducible] def CurO : List OutK → Type → Type
  | [], T => T
  | .no :: os, T => CurO os T
  | .cur _ :: os, T => CurO os T
  | .cub _ :: os, T => Option Bool → List (List C) → Int → Int → CurO os T
  | .sl _ :: os, T => Option Bool → List (List C) → CurO os T
  | .bx ks :: os, T => Cur ks (CurO os T)
  | .agg ks :: os, T => Cur ks (CurO os T)
def tOuts {T : Type} (f : T → Option Res) : (oks : List OutK) → List S → CurO oks T → Option Res
  | [], _, k => f k
  | .no :: oks, os, k => (os.head?).bind fun _ => tOuts f oks os.tail k
  | .cur _ :: oks, os, k => (os.head?).bind fun _ => tOuts f oks os.tail k
  | .cub n :: oks, os, k => (os.head?).bind fun s => (s.one?).bind fun c => (c.asCur n).bind fun x => tOuts f oks os.tail (k x.1 x.2.1 x.2.2.1 x.2.2.2)
  | .sl n :: oks, os, k => (os.head?).bind fun s => (s.one?).bind fun c => (c.asOwn n).bind fun d => tOuts f oks os.tail (k d.1 d.2)
  | .bx ks :: oks, os, k => (os.head?).bind fun s => (s.bx?).bind fun cs => if cs.length = ks.length then tRes (tOuts f oks os.tail) ks cs k else none
  | .agg ks :: oks, os, k => (os.head?).bind fun s => (s.agg?).bind fun cs => if cs.length = ks.length then tRes (tOuts f oks os.tail) ks cs k else none
/-- A call with one result. -/
def cV (agg : Bool) (ks : List CK) (x : Option Res) (k : Cur ks (Option Res)) : Option Res := x.bind fun r => tOne id agg ks r.1 k
def cT (ps : List (Bool × List CK)) (x : Option Res) (k : CurP ps) : Option Res := x.bind fun r => tTup ps r.1 k
/-- Calls that write what is lent to them. -/
def cOV (oks : List OutK) (agg : Bool) (ks : List CK) (x : Option Res) (k : CurO oks (Cur ks (Option Res))) : Option Res := x.bind fun r => tOuts (tOne id agg ks r.1) oks r.2 k
def cOT (oks : List OutK) (ps : List (Bool × List CK)) (x : Option Res) (k : CurO oks (CurP ps)) : Option Res := x.bind fun r => tOuts (tTup ps r.1) oks r.2 k
/-- Element i, only read. -/
def ld (ks : List CK) (es : List (List C)) (i : Nat) (k : Cur ks (Option Res)) : Option Res := (es[i]?).bind fun w => tRo ks w k
/-- Element i of a tree's own. -/
def lo (ks : List CK) (es : List (List C)) (i : Nat) (k : Cur (ks.filter CK.plain) (Option Res)) : Option Res := (es[i]?).bind fun w => tOwn ks w k
def ix (i : Int) (es : List (List C)) (k : Option Res) : Option Res := if 0 ≤ i ∧ i < (es.length : Int) then k else none
/-- The end. -/
def fin (keeps : Bool) (args ss os : List S) : Option Res := if ((ss.all (S.leaves keeps) && os.all (S.leaves keeps)) && lensOk args os) = true then some (S.pack ss, os) else none
/-- The end of what only reads. -/
def fr (keeps : Bool) (n : Nat) (ss : List S) : Option Res := if ((ss.all (S.leaves keeps) && true) && true) = true then some (S.pack ss, List.replicate n (.one .unk)) else none
/-- A cell of a tree's own that is written. -/
def oc (ck : CK) (es : List (List C)) (i j : Nat) (k : Option Res) : Option Res := (es[i]?).bind fun w => (w[j]?).bind fun c => shapeC ck c fun _ => k
def md (es : List (List C)) (i j : Nat) (c : C) : List (List C) := List.modify es i fun row => row.modify j (plant [] c)
def own3 (c : C) (k : Option Bool → Nat → List (List C) → Option Res) : Option Res := c.ownAny.bind fun x => k x.1 x.2.1 x.2.2
def asB (n : Nat) (c : C) (k : Option Bool → List (List C) → Option Res) : Option Res := (c.asBase n).bind fun y => k y.1 y.2
def asO (n : Nat) (c : C) (k : Option Bool → List (List C) → Option Res) : Option Res := (c.asOwn n).bind fun y => k y.1 y.2
/-- A pointer to a new box of three cells. -/
def cuK (n : Nat) (c : C) (k : Option Bool → List (List C) → Int → Int → Option Res) : Option Res := (c.asCur n).bind fun x => k x.1 x.2.1 x.2.2.1 x.2.2.2
@[simp] theorem cuK_bx (n : Nat) (nl : Option Bool) (es : List (List C)) (a b : Int) (k : Option Bool → List (List C) → Int → Int → Option Res) : cuK n (.bx [.sl false nl n es, .v (.int .i64 a), .v (.int .i64 b)]) k = k nl es a b := by simp [cuK, C.asCur]
def OT.sq : List Nat → OT → OT
  | [], t => t
  | i :: l, t => .one i (OT.sq l t)

section
variable {k0 : Option Res}
@[simp] theorem cV_some (agg : Bool) (ks : List CK) (r : Res) (k : Cur ks (Option Res)) : cV agg ks (some r) k = tOne id agg ks r.1 k := rfl
@[simp] theorem cT_some (ps : List (Bool × List CK)) (r : Res) (k : CurP ps) : cT ps (some r) k = tTup ps r.1 k := rfl
@[simp] theorem cOV_some (oks : List OutK) (agg : Bool) (ks : List CK) (r : Res) (k : CurO oks (Cur ks (Option Res))) : cOV oks agg ks (some r) k = tOuts (tOne id agg ks r.1) oks r.2 k := rfl
@[simp] theorem cOT_some (oks : List OutK) (ps : List (Bool × List CK)) (r : Res) (k : CurO oks (CurP ps)) : cOT oks ps (some r) k = tOuts (tTup ps r.1) oks r.2 k := rfl
end

/-! ### Shapes -/
inductive Cs0 where
  | i (k : IntKind)
  | b
  | s
  | sl (own : Bool) (sz : Nat)
  | u
  | ifc (b : Bool)
  | v
  | al (r k : Nat) (ss : List (Nat × Nat))
  | pl (r k : Nat) (ss : List (Nat × Nat))
  | rp
  | mp
  | pa (r k : Nat) (ps : List (Option (Nat × Nat)))
inductive Cs where
  | o (c : Cs0)
  | fn (f : FuncId) (cs : List Cs0)
inductive Ss where
  | one (c : Cs)
  | agg (cs : List Cs)
structure Sh where
  ss : List Ss
  bs : List (Bool × List Cs)
@[reducible] def VN : List (Nat × Nat) → Type
  | [] => Unit
  | _ :: ss => Nat × VN ss
def encN : (ss : List (Nat × Nat)) → VN ss → List Step
  | [], _ => []
  | s :: ss, v => ⟨v.1, s.1, s.2⟩ :: encN ss v.2
def decN : (ss : List (Nat × Nat)) → List Step → Option (VN ss)
  | [], [] => some ()
  | s :: ss, t :: ts => if t.j = s.1 ∧ t.sz = s.2 then (decN ss ts).bind fun v => some (t.i, v) else none
  | _, _ => none
theorem decN_some : ∀ {ss : List (Nat × Nat)} {ts : List Step} {v : VN ss}, decN ss ts = some v → ts = encN ss v
  | [], [], v, h => rfl
  | s :: ss, t :: ts, v, h => by
    simp only [decN] at h
    split at h
    · rename_i e
      obtain ⟨x, hx, h⟩ := Option.bind_eq_some_iff.1 h
      cases h
      have := decN_some hx
      subst this
      obtain ⟨i, j, z⟩ := t
      obtain ⟨rfl, rfl⟩ := e
      rfl
    · cases h
  | [], _ :: _, v, h => by simp [decN] at h
  | _ :: _, [], v, h => by simp [decN] at h
def encPa : List (Option (Nat × Nat)) → List (Option Place)
  | [] => []
  | some x :: l => some ⟨x.1, x.2, []⟩ :: encPa l
  | none :: l => none :: encPa l
def isPa : List (Option (Nat × Nat)) → List (Option Place) → Bool
  | [], [] => true
  | some x :: l, some ⟨r, k, []⟩ :: m => (Nat.beq x.1 r && Nat.beq x.2 k) && isPa l m
  | none :: l, none :: m => isPa l m
  | _, _ => false
theorem isPa_eq : ∀ {l : List (Option (Nat × Nat))} {m : List (Option Place)}, isPa l m = true → m = encPa l
  | [], [], _ => rfl
  | some x :: l, some ⟨r, k, []⟩ :: m, h => by
    simp only [isPa, Bool.and_eq_true] at h
    have h1 := Nat.eq_of_beq_eq_true h.1.1
    have h2 := Nat.eq_of_beq_eq_true h.1.2
    rw [encPa, ← isPa_eq h.2, h1, h2]
  | none :: l, none :: m, h => by
    simp only [isPa] at h
    rw [encPa, ← isPa_eq h]
  | [], _ :: _, h => by simp [isPa] at h
  | some _ :: _, [], h => by simp [isPa] at h
  | none :: _, [], h => by simp [isPa] at h
  | some _ :: _, none :: _, h => by simp [isPa] at h
  | none :: _, some _ :: _, h => by simp [isPa] at h
  | some _ :: _, some ⟨_, _, _ :: _⟩ :: _, h => by simp [isPa] at h
@[reducible] def Cs0.V : Cs0 → Type
  | .i _ => Int
  | .b => Bool
  | .s => ByteArray
  | .sl _ _ => Option Bool × List (List C)
  | .u => Unit
  | .ifc _ => Unit
  | .v => Value
  | .al _ _ ss => VN ss
  | .pl _ _ ss => VN ss
  | .rp => List C
  | .mp => List (ByteArray × Value)
  | .pa _ _ _ => Unit
def Cs0.enc : (c : Cs0) → c.V → C
  | .i k, x => .v (.int k x)
  | .b, x => .v (.bool x)
  | .s, x => .v (.string x)
  | .sl o sz, x => .sl o x.1 sz x.2
  | .u, _ => .unk
  | .ifc y, _ => .ifc y
  | .v, x => .v x
  | .al r k ss, x => .al ⟨r, k, encN ss x⟩
  | .pl r k ss, x => .pl ⟨r, k, encN ss x⟩
  | .rp, x => .rp x
  | .mp, x => .mp x
  | .pa r k ps, _ => .pa r k (encPa ps)
def Cs0.dec : (c : Cs0) → C → Option c.V
  | .i k, .v (.int k' n) => if k' = k then some n else none
  | .b, .v (.bool x) => some x
  | .s, .v (.string x) => some x
  | .sl o sz, .sl o' nl sz' es => if o' = o ∧ sz' = sz then some (nl, es) else none
  | .u, .unk => some ()
  | .ifc y, .ifc y' => if y' = y then some () else none
  | .v, .v x => some x
  | .al r k ss, .al p => if p.r = r ∧ p.k = k then decN ss p.steps else none
  | .pl r k ss, .pl p => if p.r = r ∧ p.k = k then decN ss p.steps else none
  | .rp, .rp cs => some cs
  | .mp, .mp kvs => some kvs
  | .pa r k ps, .pa r' k' ps' => if (r' = r ∧ k' = k) ∧ isPa ps ps' = true then some () else none
  | _, _ => none
theorem Cs0.dec_some {c : Cs0} {x : C} {v : c.V} (h : c.dec x = some v) : x = c.enc v := by
  unfold Cs0.dec at h
  split at h
  · split at h
    · rename_i e; subst e; cases h; rfl
    · cases h
  · cases h; rfl
  · cases h; rfl
  · split at h
    · rename_i e; obtain ⟨rfl, rfl⟩ := e; cases h; rfl
    · cases h
  · rfl
  · split at h
    · rename_i e; subst e; rfl
    · cases h
  · cases h; rfl
  · rename_i r k ss p
    by_cases e : p.r = r ∧ p.k = k
    · have h' := (if_pos (c := p.r = r ∧ p.k = k) (t := decN ss p.steps) (e := none) e).symm.trans h
      have h2 := decN_some h'
      obtain ⟨e1, e2⟩ := e
      show C.al p = C.al ⟨r, k, encN ss v⟩
      rw [← h2, ← e1, ← e2]
    · have h' := (if_neg (c := p.r = r ∧ p.k = k) (t := decN ss p.steps) (e := none) e).symm.trans h
      cases h'
  · rename_i r k ss p
    by_cases e : p.r = r ∧ p.k = k
    · have h' := (if_pos (c := p.r = r ∧ p.k = k) (t := decN ss p.steps) (e := none) e).symm.trans h
      have h2 := decN_some h'
      obtain ⟨e1, e2⟩ := e
      show C.pl p = C.pl ⟨r, k, encN ss v⟩
      rw [← h2, ← e1, ← e2]
    · have h' := (if_neg (c := p.r = r ∧ p.k = k) (t := decN ss p.steps) (e := none) e).symm.trans h
      cases h'
  · cases h; rfl
  · cases h; rfl
  · split at h
    · rename_i e
      obtain ⟨⟨rfl, rfl⟩, e⟩ := e
      rw [isPa_eq e]; rfl
    · cases h
  · cases h
@[reducible] def VL0 : List Cs0 → Type
  | [] => Unit
  | c :: cs => c.V × VL0 cs
def encL0 : (cs : List Cs0) → VL0 cs → List C
  | [], _ => []
  | c :: cs, v => c.enc v.1 :: encL0 cs v.2
def decL0 : (cs : List Cs0) → List C → Option (VL0 cs)
  | [], [] => some ()
  | c :: cs, x :: xs => (c.dec x).bind fun a => (decL0 cs xs).bind fun b => some (a, b)
  | _, _ => none
theorem decL0_some : ∀ {cs : List Cs0} {xs : List C} {v : VL0 cs}, decL0 cs xs = some v → xs = encL0 cs v
  | [], [], v, h => rfl
  | c :: cs, x :: xs, v, h => by
    simp only [decL0] at h
    obtain ⟨a, ha, h⟩ := Option.bind_eq_some_iff.1 h
    obtain ⟨b, hb, h⟩ := Option.bind_eq_some_iff.1 h
    cases h
    exact congr (congrArg List.cons (Cs0.dec_some ha)) (decL0_some hb)
  | [], _ :: _, v, h => by simp [decL0] at h
  | _ :: _, [], v, h => by simp [decL0] at h
@[reducible] def Cs.V : Cs → Type
  | .o c => c.V
  | .fn _ cs => VL0 cs
def Cs.enc : (c : Cs) → c.V → C
  | .o c, v => c.enc v
  | .fn f cs, v => .fn f (encL0 cs v)
def decFn (f : FuncId) (cs : List Cs0) : C → Option (VL0 cs)
  | .fn f' xs => if f' = f then decL0 cs xs else none
  | _ => none
theorem decFn_some {f : FuncId} {cs : List Cs0} {x : C} {v : VL0 cs} (h : decFn f cs x = some v) : x = .fn f (encL0 cs v) := by
  unfold decFn at h
  split at h
  · split at h
    · rename_i e; subst e; exact congrArg _ (decL0_some h)
    · cases h
  · cases h
def Cs.dec : (c : Cs) → C → Option c.V
  | .o c => c.dec
  | .fn f cs => decFn f cs
theorem Cs.dec_some : ∀ {c : Cs} {x : C} {v : c.V}, c.dec x = some v → x = c.enc v
  | .o _, _, _, h => Cs0.dec_some h
  | .fn _ _, _, _, h => decFn_some h
@[reducible] def VL : List Cs → Type
  | [] => Unit
  | c :: cs => c.V × VL cs
def encL : (cs : List Cs) → VL cs → List C
  | [], _ => []
  | c :: cs, v => c.enc v.1 :: encL cs v.2
def decL : (cs : List Cs) → List C → Option (VL cs)
  | [], [] => some ()
  | c :: cs, x :: xs => (c.dec x).bind fun a => (decL cs xs).bind fun b => some (a, b)
  | _, _ => none
theorem decL_some : ∀ {cs : List Cs} {xs : List C} {v : VL cs}, decL cs xs = some v → xs = encL cs v
  | [], [], v, h => rfl
  | c :: cs, x :: xs, v, h => by
    simp only [decL] at h
    obtain ⟨a, ha, h⟩ := Option.bind_eq_some_iff.1 h
    obtain ⟨b, hb, h⟩ := Option.bind_eq_some_iff.1 h
    cases h
    exact congr (congrArg List.cons (Cs.dec_some ha)) (decL_some hb)
  | [], _ :: _, v, h => by simp [decL] at h
  | _ :: _, [], v, h => by simp [decL] at h
@[reducible] def Ss.V : Ss → Type
  | .one c => c.V
  | .agg cs => VL cs
def Ss.enc : (s : Ss) → s.V → S
  | .one c, v => .one (c.enc v)
  | .agg cs, v => .agg (encL cs v)
def Ss.dec : (s : Ss) → S → Option s.V
  | .one c, .one x => c.dec x
  | .agg cs, .agg xs => decL cs xs
  | _, _ => none
theorem Ss.dec_some {s : Ss} {x : S} {v : s.V} (h : s.dec x = some v) : x = s.enc v := by
  cases s with
  | one c => cases x with
    | one x => exact congrArg S.one (Cs.dec_some h)
    | agg xs => cases h
    | tup xs => cases h
  | agg cs => cases x with
    | one x => cases h
    | agg xs => exact congrArg S.agg (decL_some h)
    | tup xs => cases h
@[reducible] def VS : List Ss → Type
  | [] => Unit
  | s :: ss => s.V × VS ss
def encS : (ss : List Ss) → VS ss → List S
  | [], _ => []
  | s :: ss, v => s.enc v.1 :: encS ss v.2
def decS : (ss : List Ss) → List S → Option (VS ss)
  | [], [] => some ()
  | s :: ss, x :: xs => (s.dec x).bind fun a => (decS ss xs).bind fun b => some (a, b)
  | _, _ => none
theorem decS_some : ∀ {ss : List Ss} {xs : List S} {v : VS ss}, decS ss xs = some v → xs = encS ss v
  | [], [], v, h => rfl
  | s :: ss, x :: xs, v, h => by
    simp only [decS] at h
    obtain ⟨a, ha, h⟩ := Option.bind_eq_some_iff.1 h
    obtain ⟨b, hb, h⟩ := Option.bind_eq_some_iff.1 h
    cases h
    exact congr (congrArg List.cons (Ss.dec_some ha)) (decS_some hb)
  | [], _ :: _, v, h => by simp [decS] at h
  | _ :: _, [], v, h => by simp [decS] at h
@[reducible] def VB : List (Bool × List Cs) → Type
  | [] => Unit
  | b :: bs => VL b.2 × VB bs
def encB : (bs : List (Bool × List Cs)) → VB bs → List Box
  | [], _ => []
  | b :: bs, v => ⟨b.1, encL b.2 v.1⟩ :: encB bs v.2
def decB : (bs : List (Bool × List Cs)) → List Box → Option (VB bs)
  | [], [] => some ()
  | b :: bs, x :: xs => if x.free = b.1 then (decL b.2 x.cs).bind fun a => (decB bs xs).bind fun v => some (a, v) else none
  | _, _ => none
theorem decB_some : ∀ {bs : List (Bool × List Cs)} {xs : List Box} {v : VB bs}, decB bs xs = some v → xs = encB bs v
  | [], [], v, h => rfl
  | b :: bs, x :: xs, v, h => by
    simp only [decB] at h
    split at h
    · rename_i e
      obtain ⟨a, ha, h⟩ := Option.bind_eq_some_iff.1 h
      obtain ⟨c, hc, h⟩ := Option.bind_eq_some_iff.1 h
      cases h
      obtain ⟨f, cs⟩ := x
      simp only at e ha
      subst e
      exact congr (congrArg List.cons (congrArg (Box.mk _) (decL_some ha))) (decB_some hc)
    · cases h
  | [], _ :: _, v, h => by simp [decB] at h
  | _ :: _, [], v, h => by simp [decB] at h
abbrev Sh.V (h : Sh) : Type := VS h.ss × VB h.bs
def Sh.enc (h : Sh) (v : h.V) : List S × List Box := (encS h.ss v.1, encB h.bs v.2)
def Sh.dec (h : Sh) (ss : List S) (bs : List Box) : Option h.V := (decS h.ss ss).bind fun a => (decB h.bs bs).bind fun b => some (a, b)
theorem Sh.dec_some {h : Sh} {ss : List S} {bs : List Box} {v : h.V} (e : h.dec ss bs = some v) : (ss, bs) = h.enc v := by
  obtain ⟨a, ha, e⟩ := Option.bind_eq_some_iff.1 e
  obtain ⟨b, hb, e⟩ := Option.bind_eq_some_iff.1 e
  cases e
  exact congr (congrArg Prod.mk (decS_some ha)) (decB_some hb)

/-! ### What is held, one after the other -/
@[reducible] def CurN : List (Nat × Nat) → Type → Type
  | [], T => T
  | _ :: ss, T => Nat → CurN ss T
def apN {T : Type} : (ss : List (Nat × Nat)) → CurN ss T → VN ss → T
  | [], f, _ => f
  | _ :: ss, f, v => apN ss (f v.1) v.2
def curN {T : Type} : (ss : List (Nat × Nat)) → (VN ss → T) → CurN ss T
  | [], f => f ()
  | _ :: ss, f => fun n => curN ss fun v => f (n, v)
theorem apN_cur {T : Type} : ∀ (ss : List (Nat × Nat)) (f : VN ss → T) (v : VN ss), apN ss (curN ss f) v = f v
  | [], _, _ => rfl
  | _ :: ss, _, _ => apN_cur ss _ _
@[reducible] def Cur0 : Cs0 → Type → Type
  | .i _, T => Int → T
  | .b, T => Bool → T
  | .s, T => ByteArray → T
  | .sl _ _, T => Option Bool → List (List C) → T
  | .u, T => T
  | .ifc _, T => T
  | .v, T => Value → T
  | .al _ _ ss, T => CurN ss T
  | .pl _ _ ss, T => CurN ss T
  | .rp, T => List C → T
  | .mp, T => List (ByteArray × Value) → T
  | .pa _ _ _, T => T
def ap0 {T : Type} : (c : Cs0) → Cur0 c T → c.V → T
  | .i _, f, v => f v
  | .b, f, v => f v
  | .s, f, v => f v
  | .sl _ _, f, v => f v.1 v.2
  | .u, f, _ => f
  | .ifc _, f, _ => f
  | .v, f, v => f v
  | .al _ _ ss, f, v => apN ss f v
  | .pl _ _ ss, f, v => apN ss f v
  | .rp, f, v => f v
  | .mp, f, v => f v
  | .pa _ _ _, f, _ => f
def cur0 {T : Type} : (c : Cs0) → (c.V → T) → Cur0 c T
  | .i _, f => fun x => f x
  | .b, f => fun x => f x
  | .s, f => fun x => f x
  | .sl _ _, f => fun x y => f (x, y)
  | .u, f => f ()
  | .ifc _, f => f ()
  | .v, f => fun x => f x
  | .al _ _ ss, f => curN ss f
  | .pl _ _ ss, f => curN ss f
  | .rp, f => fun x => f x
  | .mp, f => fun x => f x
  | .pa _ _ _, f => f ()
theorem ap0_cur {T : Type} : ∀ (c : Cs0) (f : c.V → T) (v : c.V), ap0 c (cur0 c f) v = f v
  | .i _, _, _ => rfl
  | .b, _, _ => rfl
  | .s, _, _ => rfl
  | .sl _ _, _, _ => rfl
  | .u, _, _ => rfl
  | .ifc _, _, _ => rfl
  | .v, _, _ => rfl
  | .al _ _ ss, f, v => apN_cur ss f v
  | .pl _ _ ss, f, v => apN_cur ss f v
  | .rp, _, _ => rfl
  | .mp, _, _ => rfl
  | .pa _ _ _, _, _ => rfl
@[reducible] def CurL0 : List Cs0 → Type → Type
  | [], T => T
  | c :: cs, T => Cur0 c (CurL0 cs T)
def apL0 {T : Type} : (cs : List Cs0) → CurL0 cs T → VL0 cs → T
  | [], f, _ => f
  | c :: cs, f, v => apL0 cs (ap0 c f v.1) v.2
def curL0 {T : Type} : (cs : List Cs0) → (VL0 cs → T) → CurL0 cs T
  | [], f => f ()
  | c :: cs, f => cur0 c fun x => curL0 cs fun v => f (x, v)
theorem apL0_cur {T : Type} : ∀ (cs : List Cs0) (f : VL0 cs → T) (v : VL0 cs), apL0 cs (curL0 cs f) v = f v
  | [], _, _ => rfl
  | c :: cs, f, v => by
    show apL0 cs (ap0 c (cur0 c fun x => curL0 cs fun v => f (x, v)) v.1) v.2 = f v
    rw [ap0_cur, apL0_cur]
@[reducible] def CurC : Cs → Type → Type
  | .o c, T => Cur0 c T
  | .fn _ cs, T => CurL0 cs T
def apC {T : Type} : (c : Cs) → CurC c T → c.V → T
  | .o c, f, v => ap0 c f v
  | .fn _ cs, f, v => apL0 cs f v
def curC {T : Type} : (c : Cs) → (c.V → T) → CurC c T
  | .o c, f => cur0 c f
  | .fn _ cs, f => curL0 cs f
theorem apC_cur {T : Type} : ∀ (c : Cs) (f : c.V → T) (v : c.V), apC c (curC c f) v = f v
  | .o c, f, v => ap0_cur c f v
  | .fn _ cs, f, v => apL0_cur cs f v
@[reducible] def CurL : List Cs → Type → Type
  | [], T => T
  | c :: cs, T => CurC c (CurL cs T)
def apL {T : Type} : (cs : List Cs) → CurL cs T → VL cs → T
  | [], f, _ => f
  | c :: cs, f, v => apL cs (apC c f v.1) v.2
def curL {T : Type} : (cs : List Cs) → (VL cs → T) → CurL cs T
  | [], f => f ()
  | c :: cs, f => curC c fun x => curL cs fun v => f (x, v)
theorem apL_cur {T : Type} : ∀ (cs : List Cs) (f : VL cs → T) (v : VL cs), apL cs (curL cs f) v = f v
  | [], _, _ => rfl
  | c :: cs, f, v => by
    show apL cs (apC c (curC c fun x => curL cs fun v => f (x, v)) v.1) v.2 = f v
    rw [apC_cur, apL_cur]
@[reducible] def CurS1 : Ss → Type → Type
  | .one c, T => CurC c T
  | .agg cs, T => CurL cs T
def apS1 {T : Type} : (s : Ss) → CurS1 s T → s.V → T
  | .one c, f, v => apC c f v
  | .agg cs, f, v => apL cs f v
def curS1 {T : Type} : (s : Ss) → (s.V → T) → CurS1 s T
  | .one c, f => curC c f
  | .agg cs, f => curL cs f
theorem apS1_cur {T : Type} : ∀ (s : Ss) (f : s.V → T) (v : s.V), apS1 s (curS1 s f) v = f v
  | .one c, f, v => apC_cur c f v
  | .agg cs, f, v => apL_cur cs f v
@[reducible] def CurS : List Ss → Type → Type
  | [], T => T
  | s :: ss, T => CurS1 s (CurS ss T)
def apS {T : Type} : (ss : List Ss) → CurS ss T → VS ss → T
  | [], f, _ => f
  | s :: ss, f, v => apS ss (apS1 s f v.1) v.2
def curS {T : Type} : (ss : List Ss) → (VS ss → T) → CurS ss T
  | [], f => f ()
  | s :: ss, f => curS1 s fun x => curS ss fun v => f (x, v)
theorem apS_cur {T : Type} : ∀ (ss : List Ss) (f : VS ss → T) (v : VS ss), apS ss (curS ss f) v = f v
  | [], _, _ => rfl
  | s :: ss, f, v => by
    show apS ss (apS1 s (curS1 s fun x => curS ss fun v => f (x, v)) v.1) v.2 = f v
    rw [apS1_cur, apS_cur]
@[reducible] def CurB : List (Bool × List Cs) → Type → Type
  | [], T => T
  | b :: bs, T => CurL b.2 (CurB bs T)
def apB {T : Type} : (bs : List (Bool × List Cs)) → CurB bs T → VB bs → T
  | [], f, _ => f
  | b :: bs, f, v => apB bs (apL b.2 f v.1) v.2
def curB {T : Type} : (bs : List (Bool × List Cs)) → (VB bs → T) → CurB bs T
  | [], f => f ()
  | b :: bs, f => curL b.2 fun x => curB bs fun v => f (x, v)
theorem apB_cur {T : Type} : ∀ (bs : List (Bool × List Cs)) (f : VB bs → T) (v : VB bs), apB bs (curB bs f) v = f v
  | [], _, _ => rfl
  | b :: bs, f, v => by
    show apB bs (apL b.2 (curL b.2 fun x => curB bs fun v => f (x, v)) v.1) v.2 = f v
    rw [apL_cur, apB_cur]
/-- What is told of a state of this shape. -/
@[reducible] def Sh.K (h : Sh) : Type := CurS h.ss (CurB h.bs (Option Res))
def Sh.ap (h : Sh) (f : h.K) (v : h.V) : Option Res := apB h.bs (apS h.ss f v.1) v.2
def Sh.cur (h : Sh) (f : h.V → Option Res) : h.K := curS h.ss fun a => curB h.bs fun b => f (a, b)
theorem Sh.ap_cur (h : Sh) (f : h.V → Option Res) (v : h.V) : h.ap (h.cur f) v = f v := by
  show apB h.bs (apS h.ss (curS h.ss fun a => curB h.bs fun b => f (a, b)) v.1) v.2 = f v
  rw [apS_cur, apB_cur]
def iterC {h : Sh} (fb : h.K → h.K) : Nat → h.K
  | 0 => h.cur fun _ => none
  | m + 1 => fb (iterC fb m)

/-! ### Loops -/
@[reducible] def KC : List (Ex × Sh) → Type → Type
  | [], T => T
  | x :: xs, T => x.2.K → KC xs T
def kOf {T : Type} (N : Nat) (lv : List Nat) (k : Kx) : (xs : List (Ex × Sh)) → KC xs T → T
  | [], f => f
  | x :: xs, f => kOf N lv k xs (f (x.2.cur fun v => k x.1 (headOf N lv (x.2.enc v))))
structure Lp where
  id : Nat
  kp : List Nat
  lv : List Nat
  n : Nat
  N : Nat
  sh : Sh
  xs : List (Ex × Sh)
  R : KC xs (sh.K → sh.K)
def Lp.fb (L : Lp) (k : Kx) : L.sh.K → L.sh.K := kOf L.N L.lv k L.xs L.R
def Lp.back (L : Lp) (nx : L.sh.K) (σ : St) : Option Res := if σ.slots.length = L.N then forgetK L.kp L.n σ fun σ1 => (L.sh.dec (L.kp.map σ1.slot) σ1.boxes).bind (L.sh.ap nx) else none
noncomputable def Lp.hand (n0 : Nat) (L : Lp) (σ : St) (k : Kx) : Option Res := if n0 ≤ L.n then L.back (iterC (L.fb k) FUEL) σ else none
noncomputable def lpOf (n0 : Nat) : List Lp → Nat → St → Kx → Option Res
  | [], _, _, _ => none
  | L :: Ls, id, σ, k => bif Nat.beq L.id id then L.hand n0 σ k else lpOf n0 Ls id σ k
def findL : List Lp → Nat → Option Lp
  | [], _ => none
  | L :: Ls, id => bif Nat.beq L.id id then some L else findL Ls id
theorem lpOf_find (n0 : Nat) : ∀ (Ls : List Lp) (id : Nat), lpOf n0 Ls id = match findL Ls id with | some L => L.hand n0 | none => fun _ _ => none
  | [], id => rfl
  | L :: Ls, id => by
    have ih := lpOf_find n0 Ls id
    cases hb : Nat.beq L.id id with
    | true => funext σ k; simp [lpOf, findL, hb]
    | false => funext σ k; simp [lpOf, findL, hb, ih]
/-- A round is what R tells. -/
def Lp.Step (E : Env) (dr : Nat → OT) (lp : Nat → St → Kx → Option Res) (L : Lp) (body : Code) : Prop := ∀ (k : Kx) (nx : L.sh.K) (v : L.sh.V),
  codeL E dr lp body (headOf L.N L.kp (L.sh.enc v)) (fun e σ' => match e with | .normal => L.back nx σ' | e => k e (σ'.only L.lv)) = L.sh.ap (L.fb k nx) v
noncomputable def loopD (body : St → Kx → Option Res) (L : Lp) : Nat → St → Kx → Option Res
  | 0, _, _ => none
  | m + 1, σ, k => if σ.slots.length = L.N then forgetK L.kp L.n σ fun σ => bif (L.sh.dec (L.kp.map σ.slot) σ.boxes).isSome then (body σ fun e σ' => match e with
    | .normal => loopD body L m σ' k
    | e => k e (σ'.only L.lv)) else none else none
theorem loopD_eq {E : Env} {dr : Nat → OT} {lp : Nat → St → Kx → Option Res} {L : Lp} {body : Code} (h : L.Step E dr lp body) (k : Kx) : ∀ (m : Nat) (σ : St), L.back (iterC (L.fb k) m) σ = loopD (codeL E dr lp body) L m σ k := by
  intro m
  induction m with
  | zero =>
    intro σ
    unfold Lp.back loopD
    split
    · rcases forgetK_head L.kp L.n σ with hf | ⟨σ1, hf, _⟩
      · rw [hf]
      · rw [hf]
        cases L.sh.dec (L.kp.map σ1.slot) σ1.boxes with
        | none => rfl
        | some v => exact L.sh.ap_cur _ v
    · rfl
  | succ m ih =>
    intro σ
    unfold Lp.back loopD
    split
    · rename_i hl
      rcases forgetK_head L.kp L.n σ with hf | ⟨σ1, hf, he⟩
      · rw [hf, hf]
      · rw [hf, hf]
        cases hd : L.sh.dec (L.kp.map σ1.slot) σ1.boxes with
        | none => rfl
        | some v =>
          simp only [Option.bind_some, Option.isSome_some, cond_true]
          rw [hl, Sh.dec_some hd] at he
          have hs := h k (iterC (L.fb k) m) v
          rw [show iterC (L.fb k) (m + 1) = L.fb k (iterC (L.fb k) m) from rfl, ← hs, he]
          congr 1
          funext e σ'
          cases e with
          | normal => exact ih σ'
          | exit id => rfl
          | ret => rfl
    · rfl
section
variable {P : Program} {E : Env} {r : Res}
theorem Lp.ok (hm : P.follows .mixedOrders = true) (hE : EnvTy P E) (hS : EnvSpec P E) {dr : Nat → OT} {lp : Nat → St → Kx → Option Res} {body : Code} (hdr : drOk dr body = true) {n0 : Nat} (hlp : LoopsOk P n0 FUEL lp body) {L : Lp} (hst : L.Step E dr lp body) : LoopOk P n0 FUEL body (L.hand n0) := by
  intro B γ st ow σ w a r k ds Q R hpin hd h hQ
  unfold Lp.hand at h
  split at h
  · rename_i hn
    rw [loopD_eq hst k FUEL σ] at h
    have hp : ∀ i y, B.pin i = some y → i < L.n := fun i y hy => Nat.lt_of_lt_of_le (hpin i y hy) hn
    have key : ∀ (j : Nat) {γ : Nat → Bx} {ow : Nat → Option Ow} {σ : St} {a : Act} {w : World}, Rel B γ st ow [] σ a.tmps w → a.defers = ds → loopD (codeL E dr lp body) L j σ k = some r → Code.rounds P body Q j a w := by
      intro j
      induction j with
      | zero => intro γ ow σ a w R hd h; simp [loopD] at h
      | succ j ih =>
        intro γ ow σ a w R hd h
        simp only [loopD] at h
        split at h
        · obtain ⟨σ1, γ1, ow1, h1, R1⟩ := forget_ok R hp h
          cases hc : (L.sh.dec (L.kp.map σ1.slot) σ1.boxes).isSome with
          | false => rw [hc] at h1; cases h1
          | true =>
            rw [hc] at h1
            rw [rounds_succ]
            refine codeL_wp hm hE hS hpin body hdr hlp R1 hd h1 fun e σ' γ' ow' a' w' hk R' hd' => ?_
            cases e with
            | normal => exact ih R' hd' hk
            | exit id => exact hQ (.exit id) _ _ _ _ _ hk (R'.only L.lv) hd'
            | ret => exact hQ .ret _ _ _ _ _ hk (R'.only L.lv) hd'
        · cases h
    exact key FUEL R hd h
  · cases h
/-- All loops, the inner ones too. -/
def subs : Code → List Code
  | .seq a b => subs a ++ subs b
  | .cond _ a b => subs a ++ subs b
  | .block _ a => subs a
  | .loop a => a :: subs a
  | _ => []
def StepAt (E : Env) (dr : Nat → OT) (n0 : Nat) (Ls : List Lp) (b : Code) : Prop := match findL Ls (firstRegion b) with
  | some L => L.Step E dr (lpOf n0 Ls) b
  | none => True
def StepsOk (E : Env) (dr : Nat → OT) (n0 : Nat) (Ls : List Lp) : List Code → Prop
  | [] => True
  | b :: bs => StepAt E dr n0 Ls b ∧ StepsOk E dr n0 Ls bs
theorem StepsOk.mem {dr : Nat → OT} {n0 : Nat} {Ls : List Lp} : ∀ {bs : List Code}, StepsOk E dr n0 Ls bs → ∀ b ∈ bs, StepAt E dr n0 Ls b
  | b :: bs, h, x, hx => by
    rcases List.mem_cons.1 hx with rfl | hx
    · exact h.1
    · exact StepsOk.mem h.2 x hx
theorem stepAt_some {dr : Nat → OT} {n0 : Nat} {Ls : List Lp} {b : Code} {L : Lp} (hf : findL Ls (firstRegion b) = some L) (h : L.Step E dr (lpOf n0 Ls) b) : StepAt E dr n0 Ls b := by
  unfold StepAt; rw [hf]; exact h
theorem stepAt_none {dr : Nat → OT} {n0 : Nat} {Ls : List Lp} {b : Code} (hf : findL Ls (firstRegion b) = none) : StepAt E dr n0 Ls b := by
  unfold StepAt; rw [hf]; trivial
theorem loopsOk_steps (hm : P.follows .mixedOrders = true) (hE : EnvTy P E) (hS : EnvSpec P E) {dr : Nat → OT} {n0 : Nat} {Ls : List Lp} : ∀ (c : Code), drOk dr c = true → (∀ b ∈ subs c, StepAt E dr n0 Ls b) → LoopsOk P n0 FUEL (lpOf n0 Ls) c
  | .seq a b, hd, h => by
    simp only [drOk, Bool.and_eq_true] at hd
    exact ⟨loopsOk_steps hm hE hS a hd.1 fun x hx => h x (List.mem_append_left _ hx), loopsOk_steps hm hE hS b hd.2 fun x hx => h x (List.mem_append_right _ hx)⟩
  | .cond _ a b, hd, h => by
    simp only [drOk, Bool.and_eq_true] at hd
    exact ⟨loopsOk_steps hm hE hS a hd.1 fun x hx => h x (List.mem_append_left _ hx), loopsOk_steps hm hE hS b hd.2 fun x hx => h x (List.mem_append_right _ hx)⟩
  | .block _ a, hd, h => loopsOk_steps hm hE hS a (by simpa only [drOk] using hd) h
  | .loop a, hd, h => by
    have hi := loopsOk_steps hm hE hS a (by simpa only [drOk] using hd) fun x hx => h x (List.mem_cons_of_mem _ hx)
    have ha := h a (List.mem_cons_self ..)
    have key : LoopOk P n0 FUEL a (lpOf n0 Ls (firstRegion a)) := by
      unfold StepAt at ha
      rw [lpOf_find]
      cases hf : findL Ls (firstRegion a) with
      | some L => rw [hf] at ha; exact Lp.ok hm hE hS (by simpa only [drOk] using hd) hi ha
      | none =>
        intro _ _ _ _ _ _ _ _ _ _ _ _ _ _ h _
        cases h
    exact ⟨key, hi⟩
  | .skip, _, _ => trivial
  | .region .., _, _ => trivial
  | .exit _, _, _ => trivial
  | .ret, _, _ => trivial
  | .scope _, _, _ => trivial
  | .label _, _, _ => trivial
  | .goto _, _, _ => trivial
  | .refuse _, _, _ => trivial
  | .rangeFunc .., _, _ => trivial
end

/-! ### A function -/
structure Fx where
  fn : Func
  modes : List Mode
  keeps : Bool
  E : Env
  dr : Nat → OT
  Ls : List Lp
def Fx.code (F : Fx) : Code := F.fn.body.getD .skip
noncomputable def Fx.lp (F : Fx) : Nat → St → Kx → Option Res := lpOf (nio F.modes) F.Ls
noncomputable def Fx.run (F : Fx) (xs : List S) : Option Res := funcL F.E F.dr F.lp F.keeps F.modes F.code F.fn.ntmps F.fn.results.toList xs
/-- Code parted behind a region. -/
def cutAt (id : Nat) : Code → Option (Code × Code)
  | .region i ops d => bif Nat.beq i id then some (.region i ops d, .skip) else none
  | .seq a b => match cutAt id a with
    | some p => some (p.1, .seq p.2 b)
    | none => match cutAt id b with
      | some p => some (.seq a p.1, p.2)
      | none => none
  | _ => none
theorem cut_ok {E : Env} {dr : Nat → OT} {lp : Nat → St → Kx → Option Res} {id : Nat} : ∀ {c : Code} {p : Code × Code}, cutAt id c = some p → ∀ (σ : St) (k : Kx), codeL E dr lp c σ k = codeL E dr lp p.1 σ fun e σ' => match e with
    | .normal => codeL E dr lp p.2 σ' k
    | e => k e σ'
  | .region i ops d, p, h, σ, k => by
    simp only [cutAt] at h
    cases hb : Nat.beq i id with
    | true => rw [hb, cond_true, Option.some.injEq] at h; subst h; rfl
    | false => rw [hb] at h; cases h
  | .seq a b, p, h, σ, k => by
    simp only [cutAt] at h
    split at h
    · rename_i q hq
      cases h
      simp only [codeL]
      rw [cut_ok hq]
      congr 1
      funext e σ'
      cases e <;> rfl
    · split at h
      · rename_i q hq
        cases h
        simp only [codeL]
        congr 1
        funext e σ'
        cases e with
        | normal => exact cut_ok hq σ' k
        | _ => rfl
      · cases h
  | .skip, p, h, _, _ => by simp [cutAt] at h
  | .cond .., p, h, _, _ => by simp [cutAt] at h
  | .block .., p, h, _, _ => by simp [cutAt] at h
  | .loop _, p, h, _, _ => by simp [cutAt] at h
  | .exit _, p, h, _, _ => by simp [cutAt] at h
  | .ret, p, h, _, _ => by simp [cutAt] at h
  | .scope _, p, h, _, _ => by simp [cutAt] at h
  | .label _, p, h, _, _ => by simp [cutAt] at h
  | .goto _, p, h, _, _ => by simp [cutAt] at h
  | .refuse _, p, h, _, _ => by simp [cutAt] at h
  | .rangeFunc .., p, h, _, _ => by simp [cutAt] at h
noncomputable def Fx.kend (F : Fx) (xs : List S) : Kx := fun e σ => match e with
  | .exit _ => none
  | _ => leaveK F.E F.keeps F.fn.results.toList F.modes xs σ
def Fx.start (F : Fx) (xs : List S) : St := ⟨(enter F.modes xs []).1 ++ List.replicate (F.fn.ntmps - xs.length) (.one .unk), (enter F.modes xs []).2⟩
/-- What comes behind a cut. -/
noncomputable def Fx.J (F : Fx) (b : Code) (N : Nat) (lv : List Nat) (h : Sh) (xs : List S) : h.K := h.cur fun v => codeL F.E F.dr F.lp b (headOf N lv (h.enc v)) (F.kend xs)
theorem Fx.cut0 {F : Fx} {xs : List S} {id : Nat} {p : Code × Code} (hc : cutAt id F.code = some p) {N : Nat} {lv : List Nat} {h : Sh} {R : h.K → Option Res}
    (hR : ∀ G : St → Option Res, codeL F.E F.dr F.lp p.1 (F.start xs) (fun e σ' => match e with | .normal => G σ' | e => F.kend xs e σ') = R (h.cur fun v => G (headOf N lv (h.enc v)))) : F.run xs = R (F.J p.2 N lv h xs) :=
  (cut_ok hc (F.start xs) (F.kend xs)).trans (hR fun σ' => codeL F.E F.dr F.lp p.2 σ' (F.kend xs))
theorem Fx.cutJ {F : Fx} {xs : List S} {σ : St} {id : Nat} {c : Code} {p : Code × Code} (hc : cutAt id c = some p) {N : Nat} {lv : List Nat} {h : Sh} {R : h.K → Option Res}
    (hR : ∀ G : St → Option Res, codeL F.E F.dr F.lp p.1 σ (fun e σ' => match e with | .normal => G σ' | e => F.kend xs e σ') = R (h.cur fun v => G (headOf N lv (h.enc v)))) : codeL F.E F.dr F.lp c σ (F.kend xs) = R (F.J p.2 N lv h xs) :=
  (cut_ok hc σ (F.kend xs)).trans (hR fun σ' => codeL F.E F.dr F.lp p.2 σ' (F.kend xs))
noncomputable def Fx.spec (F : Fx) : Spec := ⟨F.modes, F.keeps, veil F.run⟩
theorem Fx.eq {F : Fx} {xs : List S} {x : Option Res} (h : F.run xs = x) : veil F.run xs = x := (congrFun (veil_eq F.run) xs).trans h
theorem Fx.ok {P : Program} {F : Fx} {f : FuncId} (hm : P.follows .mixedOrders = true) (hE : EnvTy P F.E) (hS : EnvSpec P F.E) (hf : P.funcs[f]? = some F.fn) (hb : F.fn.body = some F.code) (hdr : drOk F.dr F.code = true) (hst : StepsOk F.E F.dr (nio F.modes) F.Ls (subs F.code))
    (h1 : F.fn.body.isNone = false) (h2 : (F.fn.name == "runtime.NumGoroutine") = false) {sp : Spec} (hsp : sp = F.spec) : CalleeOk P f sp := by
  subst hsp
  refine ⟨funcL_ok hm hE hS hf hb hdr (fun xs r hl h => ⟨F.lp, FUEL, loopsOk_steps hm hE hS _ hdr hst.mem, ?_⟩), _, hf, h1, h2⟩
  have : F.run xs = some r := by rw [← veil_eq F.run]; exact h
  exact this
end Go.Proofs.Gh
