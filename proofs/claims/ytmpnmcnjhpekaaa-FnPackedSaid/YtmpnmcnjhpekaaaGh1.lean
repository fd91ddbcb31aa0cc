/- The ghost semantics: slots hold numbers, texts, slices that are only read, and places; boxes hold trees of plain values: what the call owns. Definitions alone; no statement about Go is proved here. -/
import Derived.Below
import Derived.WalkKit
namespace Go.Proofs.Gh

/-- A step into a slice: element i, its cell j; an element has sz cells. -/
structure Step where
  i : Nat
  j : Nat
  sz : Nat
/-- Cell k of box r, and on from there. -/
structure Place where
  r : Nat
  k : Nat
  steps : List Step

/-- A cell's content. 'sl own nl sz es': a slice, its elements' cells (sz each); 'pl': a pointer to a place; 'al': the slice that lies at a place; 'rp': a pointer into memory that is only read; 'bx': a pointer with what it points to (at a call's border); 'ifc': an interface value, nil or not; 'pa': a pointer into a box whose cells hold the same as what lies at places (it is only read); 'wi': the slice that lies at a place, cut (it is only read). -/
inductive C where
  | v (x : Value)
  | sl (own : Bool) (nl : Option Bool) (sz : Nat) (es : List (List C))
  | fn (f : FuncId) (caps : List C)
  | pl (p : Place)
  | al (p : Place)
  | rp (cs : List C)
  | bx (cs : List C)
  | ifc (nil : Bool)
  | unk
  | pa (r k : Nat) (ps : List (Option Place))
  | wi (p : Place) (sz l h : Nat)
  | mp (kvs : List (ByteArray × Value))

inductive S where
  | one (x : C)
  | agg (xs : List C)
  | tup (xs : List S)

/-- A box: 'free' where it is no memory of its own but stands for a value that some slots hold. -/
structure Box where
  free : Bool
  cs : List C
structure St where
  slots : List S
  boxes : List Box

abbrev C.int (n : Int) : C := .v (.int .i64 n)
abbrev C.bool (b : Bool) : C := .v (.bool b)
abbrev C.str (s : ByteArray) : C := .v (.string s)

/-- What a type's cell holds. -/
inductive CK where
  | int (k : IntKind)
  | bool
  | str
  | sl (sz : Nat)
  | other
inductive TK where
  | scalar
  | struct (parts : List (Nat × Nat × Bool))   -- offset, cells, whether an aggregate
  | array (n : Nat) (elem : TypeId)
  | slice (elem : TypeId)
  | tuple (parts : List TypeId)
structure TI where
  agg : Bool
  bytes : Nat
  cks : List CK
  zero : List C
  kind : TK
  flat : Bool
  /-- A map of texts: what is not in it reads as this. -/
  mapz : Option Value

inductive Mode where
  | ro
  | io
  | tk

abbrev Res := S × List S

structure Spec where
  modes : List Mode
  keeps : Bool
  run : List S → Option Res

/-- What a lent argument comes back as. -/
inductive OutK where
  | no
  | sl (n : Nat)
  | bx (cks : List CK)
  | agg (cks : List CK)
  /-- Nothing lent; the result begins with a pointer to a new box: bytes that are only read, and two numbers. -/
  | cur (n : Nat)
  /-- A lent box of that kind. -/
  | cub (n : Nat)
structure Env where
  ty : TypeId → Option TI
  spec : FuncId → Option Spec
  outk : FuncId → List OutK
  pas : Bool
  win : Nat → Bool
  peel : Nat → Bool
  cut : Nat → Option (List Nat)
def cutL : List (Nat × List Nat) → Nat → Option (List Nat)
  | [], _ => none
  | (s, i) :: l, t => bif Nat.beq s t then some i else cutL l t
/-- A struct that gets a box is only read there: its slices stay where they lie. -/
def Env.paS (E : Env) : Env := ⟨E.ty, E.spec, E.outk, true, E.win, E.peel, E.cut⟩
/-- Loops whose first round is told apart. -/
def Env.peelS (l : List Nat) (E : Env) : Env := ⟨E.ty, E.spec, E.outk, E.pas, E.win, fun i => l.any (Nat.beq i), E.cut⟩
/-- Regions behind which these slots alone are told. -/
def Env.cutS (l : List (Nat × List Nat)) (E : Env) : Env := ⟨E.ty, E.spec, E.outk, E.pas, E.win, E.peel, cutL l⟩
/-- Slices of what is one's own that are only read: by the slots that they go to. -/
def Env.winS (l : List Nat) (E : Env) : Env := ⟨E.ty, E.spec, E.outk, E.pas, fun i => l.any (Nat.beq i), E.peel, E.cut⟩

def Env.cks (E : Env) (t : TypeId) : List CK :=
  match E.ty t with
  | some i => i.cks
  | none => []

/-- A slice type's elements' cells. -/
def Env.sliceN (E : Env) (t : TypeId) : Option Nat :=
  match E.ty t with
  | some i => (match i.kind, i.cks with
    | .slice _, [.sl n] => some n
    | _, _ => none)
  | none => none
/-! ### Reading a content -/
def C.asInt (k : IntKind) : C → Option Int
  | .v (.int k' n) => if k' = k then some n else none
  | _ => none
def C.asBool : C → Option Bool
  | .v (.bool b) => some b
  | _ => none
def C.asStr : C → Option ByteArray
  | .v (.string s) => some s
  | _ => none
def C.asRo (n : Nat) : C → Option (List (List C))
  | .sl false _ sz es => if sz = n then some es else none
  | _ => none
def C.asOwn (n : Nat) : C → Option (Option Bool × List (List C))
  | .sl true nl sz es => if sz = n then some (nl, es) else none
  | _ => none
def C.asOwnB : C → Bool
  | .sl true _ _ _ => true
  | .mp _ => true
  | _ => false
/-- A slice, or what was one. -/
def C.slice : C → Option Unit
  | .sl _ _ _ _ => some ()
  | .unk => some ()
  | _ => none
def mapGet (s : ByteArray) : List (ByteArray × Value) → Option Value
  | [] => none
  | x :: l => bif s == x.1 then some x.2 else mapGet s l
def zCK : Value → CK
  | .bool _ => .bool
  | .int k _ => .int k
  | .string _ => .str
  | _ => .other
def C.asMap : C → Option (List (ByteArray × Value))
  | .mp kvs => some kvs
  | _ => none
def shapeC (ck : CK) (c : C) (k : C → Option Res) : Option Res :=
  match ck with
  | .int ki => (c.asInt ki).bind fun n => k (.v (.int ki n))
  | .bool => c.asBool.bind fun b => k (.v (.bool b))
  | .str => c.asStr.bind fun s => k (.v (.string s))
  | .sl n => (c.asRo n).bind fun es => k (.sl false none n es)
  | .other => k c
/-- The cells of something that is only read, told by their kinds. -/
def shapeRo : List CK → List C → (List C → Option Res) → Option Res
  | [], _, k => k []
  | ck :: cks, cs, k => (cs.head?).bind fun c => shapeC ck c fun c' => shapeRo cks cs.tail fun cs' => k (c' :: cs')
def addLast (n : Nat) : List Step → List Step
  | [] => []
  | [s] => [⟨s.i, s.j + n, s.sz⟩]
  | s :: rest => s :: addLast n rest
def Place.add (p : Place) (n : Nat) : Place :=
  match p.steps with
  | [] => ⟨p.r, p.k + n, []⟩
  | st => ⟨p.r, p.k, addLast n st⟩
/-- The cells of a tree, told by their kinds: a slice in it is told by its place. -/
def shapeOwn : List CK → List C → Place → (List C → Option Res) → Option Res
  | [], _, _, k => k []
  | .sl _ :: cks, cs, p, k => (cs.head?).bind fun c => c.slice.bind fun _ => shapeOwn cks cs.tail (p.add 1) fun cs' => k (.al p :: cs')
  | .other :: _, _, _, _ => none
  | ck :: cks, cs, p, k => (cs.head?).bind fun c => shapeC ck c fun c' => shapeOwn cks cs.tail (p.add 1) fun cs' => k (c' :: cs')
/-- The cells of a box: what they hold is known. -/
def viewBox : List C → Nat → Nat → List C
  | [], _, _ => []
  | .sl true _ _ _ :: cs, r, k => .al ⟨r, k, []⟩ :: viewBox cs r (k + 1)
  | .mp _ :: cs, r, k => .al ⟨r, k, []⟩ :: viewBox cs r (k + 1)
  | c :: cs, r, k => c :: viewBox cs r (k + 1)

/-! ### Trees -/
def St.root (σ : St) (r k : Nat) : Option C := (σ.boxes[r]?).bind fun b => b.cs[k]?
/-- From a node on along steps; each node on the way is a slice of the tree's own. -/
def walkK : List Step → C → (C → Option Res) → Option Res
  | [], c, k => k c
  | s :: rest, c, k => (c.asOwn s.sz).bind fun x => (x.2[s.i]?).bind fun row => (row[s.j]?).bind fun c' => walkK rest c' k
def St.nodeK (σ : St) (p : Place) (k : C → Option Res) : Option Res := (σ.root p.r p.k).bind fun c => walkK p.steps c k
def plant : List Step → C → C → C
  | [], n, _ => n
  | s :: rest, n, .sl o nl sz es => .sl o nl sz (es.modify s.i fun row => row.modify s.j (plant rest n))
  | _ :: _, _, c => c
/-- A node is written (it must be there). -/
def St.put (σ : St) (p : Place) (c : C) : St :=
  { σ with boxes := σ.boxes.modify p.r fun b => { b with cs := b.cs.modify p.k (plant p.steps c) } }
/-- May the steps p be a beginning of q? Told by the cells' places in their elements alone. -/
def leads : List Step → List Step → Bool
  | [], _ => true
  | s :: p, t :: q => s.j == t.j && leads p q
  | _ :: _, [] => false
def paAny (h : Place → Bool) (ps : List (Option Place)) : Bool := ps.any fun x => match x with
  | some p => h p
  | none => false
/-- Does a content name a place beyond q? It dies when what lies at q is taken. -/
def C.beyond (q : Place) : C → Bool
  | .al p => q.steps.length < p.steps.length && p.r == q.r && p.k == q.k && leads q.steps p.steps
  | .pl p => q.steps.length < p.steps.length && p.r == q.r && p.k == q.k && leads q.steps p.steps
  | .wi p _ _ _ => q.steps.length < p.steps.length && p.r == q.r && p.k == q.k && leads q.steps p.steps
  | .pa _ _ ps => paAny (fun p => q.steps.length < p.steps.length && p.r == q.r && p.k == q.k && leads q.steps p.steps) ps
  | _ => false
/-- What dies when q is written. -/
def C.hit (q : Place) : C → Bool
  | .al p => p.r == q.r && p.k == q.k && leads q.steps p.steps
  | .pl p => q.steps.length < p.steps.length && p.r == q.r && p.k == q.k && leads q.steps p.steps
  | .wi p _ _ _ => p.r == q.r && p.k == q.k && leads q.steps p.steps
  | .pa r _ ps => r == q.r || paAny (fun p => p.r == q.r && p.k == q.k && leads q.steps p.steps) ps
  | _ => false
def S.kill (h : C → Bool) : S → S
  | .one x => .one (if h x then .unk else x)
  | .agg xs => .agg (xs.map fun x => if h x then .unk else x)
  | .tup [] => .tup []
  | .tup _ => .one .unk
def St.kill (σ : St) (h : C → Bool) : St := { σ with slots := σ.slots.map (·.kill h) }
/-- A new box for a value of the call's own. -/
def St.new (σ : St) (free : Bool) (cs : List C) : St := { σ with boxes := σ.boxes ++ [⟨free, cs⟩] }

/-! ### Operands -/
def constC : Value → C
  | .slice none 0 0 => .sl true (some true) 0 []
  | .nilIface => .ifc true
  | .agg _ => .unk
  | .tuple _ => .unk
  | x => .v x
def constS : Value → S
  | .agg cs => .agg (cs.toList.map constC)
  | .tuple _ => .one .unk
  | x => .one (constC x)
def St.slot (σ : St) (t : Nat) : S := σ.slots.getD t (.one .unk)
def St.view (σ : St) : Operand → S
  | .tmp t => σ.slot t
  | .const x => constS x
  | .func f => .one (.fn f [])
  | .global _ => .one .unk
def S.isTup : S → Bool
  | .tup _ => true
  | _ => false
def S.cells : S → List C
  | .one x => [x]
  | .agg xs => xs
  | .tup _ => []
def St.assign (σ : St) (t : Nat) (s : S) : St := { σ with slots := σ.slots.set t s }
def St.assign? (σ : St) (t : Option Nat) (s : S) : St :=
  match t with
  | some t => σ.assign t s
  | none => σ
/-- Nodes are taken out: what is put into memory, or handed over. -/
def C.ownAny : C → Option (Option Bool × Nat × List (List C))
  | .sl true nl sz es => some (nl, sz, es)
  | _ => none
/-- What lies inside of a row: a slice of its own, told anew. -/
def reown (p : Place) (d : C) (k : C → Option Res) : Option Res :=
  match p.steps with
  | [] => k d
  | _ => d.ownAny.bind fun x => k (.sl true x.1 x.2.1 x.2.2)
theorem reown_some {p : Place} {d : C} {k : C → Option Res} {r : Res} (h : reown p d k = some r) : k d = some r := by
  unfold reown at h
  split at h
  · exact h
  · obtain ⟨x, hx, h⟩ := Option.bind_eq_some_iff.1 h
    unfold C.ownAny at hx
    split at hx
    · cases hx; exact h
    · cases hx
def St.takeK (σ : St) (c : C) (k : C → St → Option Res) : Option Res :=
  match c with
  | .al p => σ.nodeK p fun d => reown p d fun d => k d ((σ.put p .unk).kill (C.beyond p))
  | .pl p => match p.steps with
    | [] => k (.pl p) σ
    | _ => none
  | .rp _ => none
  | .unk => none
  | .pa _ _ _ => none
  | .wi _ _ _ _ => none
  | .mp _ => none
  | c => k c σ
/-- Nothing is told of whether it is nil. -/
def C.weak : C → C
  | .sl o _ sz es => .sl o none sz es
  | c => c
def takesK : St → List C → (List C → St → Option Res) → Option Res
  | σ, [], k => k [] σ
  | σ, c :: cs, k => σ.takeK c fun c' σ' => takesK σ' cs fun cs' σ'' => k (c'.weak :: cs') σ''
/-- A slice operand: whether its elements may be written; its elements. -/
def St.sliceK (σ : St) (n : Nat) (c : C) (k : Bool → Option Bool → List (List C) → Option Res) : Option Res :=
  match c with
  | .sl o nl sz es => if sz = n then k o nl es else none
  | .al p => match p.steps with
    | [] => match σ.root p.r p.k with
      | some (.sl o nl sz es) => if sz = n then k o nl es else none
      | _ => none
    | _ => σ.nodeK p fun d => (d.asOwn n).bind fun x => k true x.1 x.2
  | _ => none
/-- A value of the call's own, into a slot: it gets a box. -/
def St.homeC (σ : St) (c : C) (k : C → St → Option Res) : Option Res :=
  match c with
  | .sl true nl sz es => k (.al ⟨σ.boxes.length, 0, []⟩) (σ.new true [.sl true nl sz es])
  | .mp kvs => k (.al ⟨σ.boxes.length, 0, []⟩) (σ.new true [.mp kvs])
  | c => k c σ
def homesC : St → List C → (List C → St → Option Res) → Option Res
  | σ, [], k => k [] σ
  | σ, c :: cs, k => σ.homeC c fun c' σ' => homesC σ' cs fun cs' σ'' => k (c' :: cs') σ''
mutual
def St.homeS (σ : St) (s : S) (k : S → St → Option Res) : Option Res :=
  match s with
  | .one c => σ.homeC c fun c σ => k (.one c) σ
  | .agg cs => homesC σ cs fun cs σ => k (.agg cs) σ
  | .tup ss => St.homesS σ ss fun ss σ => k (.tup ss) σ
def St.homesS (σ : St) (ss : List S) (k : List S → St → Option Res) : Option Res :=
  match ss with
  | [] => k [] σ
  | s :: ss => St.homeS σ s fun s σ => St.homesS σ ss fun ss σ => k (s :: ss) σ
end

/-! ### Operations -/
def LIM : Nat := 140737488355328
def arithK (op : BinOp) (ki : IntKind) (a b : Int) (k : C → Option Res) : Option Res :=
  match op with
  | .add => k (.v (.int ki (ki.wrap (a + b))))
  | .sub => k (.v (.int ki (ki.wrap (a - b))))
  | .mul => k (.v (.int ki (ki.wrap (a * b))))
  | .quo => if b = 0 then none else k (.v (.int ki (ki.wrap (a.tdiv b))))
  | .rem => if b = 0 then none else k (.v (.int ki (a.tmod b)))
  | .and => k (.v (.int ki (ki.wrap (BitVec.ofInt ki.bits a &&& BitVec.ofInt ki.bits b).toNat)))
  | .or => k (.v (.int ki (ki.wrap (BitVec.ofInt ki.bits a ||| BitVec.ofInt ki.bits b).toNat)))
  | .xor => k (.v (.int ki (ki.wrap (BitVec.ofInt ki.bits a ^^^ BitVec.ofInt ki.bits b).toNat)))
  | .eql => k (.v (.bool (a == b)))
  | .neq => k (.v (.bool (a != b)))
  | .lss => k (.v (.bool (decide (a < b))))
  | .leq => k (.v (.bool (decide (a ≤ b))))
  | .gtr => k (.v (.bool (decide (a > b))))
  | .geq => k (.v (.bool (decide (a ≥ b))))
  | _ => none
def nilK (nl : Option Bool) (es : List (List C)) (k : Bool → Option Res) : Option Res :=
  match nl with
  | some b => k b
  | none => if es.isEmpty then none else k false
/-- Are the cells alike? -/
def eqCells : List CK → List C → List C → Option Bool
  | [], [], [] => some true
  | .int _ :: cks, .v (.int ka a) :: xs, .v (.int kb b) :: ys => if ka = kb then (eqCells cks xs ys).map fun r => (a == b) && r else none
  | .bool :: cks, .v (.bool a) :: xs, .v (.bool b) :: ys => (eqCells cks xs ys).map fun r => (a == b) && r
  | .str :: cks, .v (.string a) :: xs, .v (.string b) :: ys => (eqCells cks xs ys).map fun r => (a.toList == b.toList) && r
  | _, _, _ => none
def Env.flat (E : Env) (t : TypeId) : Bool :=
  match E.ty t with
  | some i => i.flat
  | none => false
def Env.isBool (E : Env) (t : TypeId) : Bool :=
  match E.ty t with
  | some i => (match i.kind, i.cks with
    | .scalar, [.bool] => true
    | _, _ => false)
  | none => false
def shiftK (op : BinOp) (ki : IntKind) (a b : Int) (k : C → Option Res) : Option Res :=
  if b < 0 then none else match op with
    | .shl => k (.v (.int ki (ki.wrap (a * 2 ^ min b.toNat ki.bits))))
    | .shr => k (.v (.int ki (a.fdiv (2 ^ min b.toNat ki.bits))))
    | _ => none
def isShift : BinOp → Bool
  | .shl => true
  | .shr => true
  | _ => false
def binK (E : Env) (σ : St) (op : BinOp) (t : TypeId) (x y : S) (k : C → Option Res) : Option Res :=
  match x, y with
  | .one (.v (.int ki a)), .one (.v (.int ki' b)) => bif isShift op then shiftK op ki a b k else if ki = ki' then arithK op ki a b k else none
  | .one (.v (.bool a)), .one (.v (.bool b)) => (match op with
    | .eql => bif E.isBool t then k (.v (.bool (a == b))) else none
    | .neq => bif E.isBool t then k (.v (.bool !(a == b))) else none
    | _ => none)
  | .agg xs, .agg ys => (match op with
    | .eql => bif E.flat t then (eqCells (E.cks t) xs ys).bind fun b => k (.v (.bool b)) else none
    | .neq => bif E.flat t then (eqCells (E.cks t) xs ys).bind fun b => k (.v (.bool !b)) else none
    | _ => none)
  | .one (.v (.string a)), .one (.v (.string b)) => (match op with
    | .add => if a.size + b.size ≤ LIM then k (.v (.string (a ++ b))) else none
    | .eql => k (.v (.bool (a.toList == b.toList)))
    | .neq => k (.v (.bool (!(a.toList == b.toList))))
    | .lss => k (.v (.bool (Op.bytesLess a.toList b.toList)))
    | .leq => k (.v (.bool (Op.bytesLess a.toList b.toList || a.toList == b.toList)))
    | _ => none)
  | .one x, .one (.sl true (some true) _ []) => (match op, E.sliceN t with
    | .eql, some n => σ.sliceK n x fun _ nl es => nilK nl es fun b => k (.v (.bool b))
    | .neq, some n => σ.sliceK n x fun _ nl es => nilK nl es fun b => k (.v (.bool !b))
    | _, _ => none)
  | _, _ => none
def S.mk (agg : Bool) (cs : List C) : S :=
  if agg then .agg cs else match cs with
    | [x] => .one x
    | _ => .one .unk
def CK.plain : CK → Bool
  | .int _ => true
  | .bool => true
  | .str => true
  | _ => false
def splitLast : List Step → Option (List Step × Step)
  | [] => none
  | [s] => some ([], s)
  | s :: rest => (splitLast rest).map fun x => (s :: x.1, x.2)
/-- What stays in a box that is only read. -/
def C.calm : C → C
  | .v x => .v x
  | _ => .unk
def C.pp : C → Option Place
  | .al p => some p
  | _ => none
def C.paOk : C → Bool
  | .v _ => true
  | .al _ => true
  | _ => false
def paCell (o : Option Place) (c : C) : C :=
  match o with
  | some p => .al p
  | none => c.calm
def viewPa : List C → List (Option Place) → List C
  | [], _ => []
  | c :: cs, ps => paCell (ps.headD none) c :: viewPa cs ps.tail
def St.loadK (σ : St) (i : TI) (x : S) (k : S → Option Res) : Option Res :=
  match x with
  | .one (.rp cs) => shapeRo i.cks cs fun cs' => k (S.mk i.agg cs')
  | .one (.pl p) => match splitLast p.steps with
    | none => (σ.boxes[p.r]?).bind fun b => if p.k + i.cks.length ≤ b.cs.length then (if i.cks.all CK.plain then shapeRo i.cks (b.cs.drop p.k) fun cs' => k (S.mk i.agg cs')
        else k (S.mk i.agg (viewBox ((b.cs.drop p.k).take i.cks.length) p.r p.k))) else none
    | some (before, s) => σ.nodeK ⟨p.r, p.k, before⟩ fun c => (c.asOwn s.sz).bind fun x => (x.2[s.i]?).bind fun row => shapeOwn i.cks (row.drop s.j) p fun cs' => k (S.mk i.agg cs')
  | .one (.pa r k0 ps) => (σ.boxes[r]?).bind fun b => if k0 + i.cks.length ≤ b.cs.length then k (S.mk i.agg (viewPa ((b.cs.drop k0).take i.cks.length) ps)) else none
  | _ => none
/-- Does a content name no box? (Where a slice is told, this is told apart.) -/
def C.nested : C → Bool
  | .pl _ => false
  | .al _ => false
  | .rp _ => false
  | .bx _ => false
  | .pa _ _ _ => false
  | .wi _ _ _ _ => false
  | .mp _ => false
  | .fn _ cs => cs.all fun c => match c with
    | .v _ => true
    | .sl _ _ _ _ => true
    | _ => false
  | _ => true
/-- What may be put into a cell of a kind: into a box's own cell ('top') a place as well. -/
def fitK (top : Bool) (ck : CK) (c : C) (k : C → Option Res) : Option Res :=
  match ck with
  | .sl _ => c.slice.bind fun _ => k c
  | .other => if top || c.nested then k c else none
  | ck => shapeC ck c k
def fitsK : List CK → List C → (List C → Option Res) → Option Res
  | [], [], k => k []
  | ck :: cks, c :: cs, k => fitK false ck c fun c => fitsK cks cs fun cs => k (c :: cs)
  | _, _, _ => none
def storeCellsK : St → Place → List CK → List C → (St → Option Res) → Option Res
  | σ, _, [], [], k => k σ
  | σ, p, ck :: cks, c :: cs, k => σ.nodeK p fun old => if ck.plain then shapeC ck old fun _ => shapeC ck c fun c => storeCellsK (σ.put p c) (p.add 1) cks cs k
      else fitK p.steps.isEmpty ck c fun c => storeCellsK ((σ.put p c).kill (C.hit p)) (p.add 1) cks cs k
  | _, _, _, _, _ => none
def St.storeK (σ : St) (i : TI) (x : S) (val : S) (k : St → Option Res) : Option Res :=
  if val.isTup then none else match x with
  | .one (.pl p) => takesK σ val.cells fun cs σ' => storeCellsK σ' p i.cks cs k
  | _ => none
/-- Something is told of the cell. -/
def C.told : C → Bool
  | .unk => false
  | _ => true
def overlay (cs : List C) (off : Nat) (new : List C) : List C := cs.take off ++ new ++ cs.drop (off + new.length)
def buildS (E : Env) (σ : St) (parts : List (Nat × Nat × Bool)) (zero : List C) : List (Nat × Operand) → Option (List C)
  | [] => some zero
  | (i, x) :: rest => match parts[i]? with
    | some (off, n, _) => if (σ.view x).cells.length = n ∧ (σ.view x).isTup = false ∧ off + n ≤ zero.length ∧ (σ.view x).cells.all C.told then buildS E σ parts (overlay zero off (σ.view x).cells) rest else none
    | none => none
/-- The constant nil, told of its type. -/
def retypeC : CK → C → C
  | .sl n, .sl true (some true) 0 [] => .sl true (some true) n []
  | _, c => c
def retype (E : Env) (t : TypeId) : S → S
  | .one c => match E.cks t with
    | [ck] => .one (retypeC ck c)
    | _ => .one c
  | s => s
def buildRowsK (E : Env) (e : TypeId) (cks : List CK) : Nat → St → List (Nat × Operand) → (List (List C) → St → Option Res) → Option Res
  | _, σ, [], k => k [] σ
  | n, σ, (i, x) :: rest, k => if i = n ∧ (retype E e (σ.view x)).isTup = false then takesK σ (retype E e (σ.view x)).cells fun cs σ' => fitsK cks cs fun cs => buildRowsK E e cks (n + 1) σ' rest fun rows σ => k (cs :: rows) σ else none
def bound (E : Env) (t : TypeId) (k : TI → Option Res) : Option Res :=
  match E.ty t with
  | some i => (match i.kind with
    | .tuple _ => none
    | _ => k i)
  | none => none
def pickN (ix : Int) (k : Nat → Option Res) : Nat → Option Res
  | 0 => none
  | n + 1 => if ix = (n : Int) then k n else pickN ix k n
theorem pickN_some {ix : Int} {k : Nat → Option Res} {r : Res} : ∀ {n : Nat}, pickN ix k n = some r → 0 ≤ ix ∧ ix < (n : Int) ∧ k ix.toNat = some r
  | 0, h => by cases h
  | n + 1, h => by
    unfold pickN at h
    split at h
    · rename_i e
      subst e
      exact ⟨by omega, by omega, by simpa using h⟩
    · obtain ⟨h1, h2, h3⟩ := pickN_some h
      exact ⟨h1, by omega, h3⟩
def St.indexAddrK (E : Env) (σ : St) (i : TI) (x : S) (ix : Int) (k : S → Option Res) : Option Res :=
  match i.kind, x with
  | .slice e, .one x => bound E e fun ie => σ.sliceK ie.cks.length x fun o _ es => if 0 ≤ ix ∧ ix < (es.length : Int) then (match o, x with
      | true, .al p => k (.one (.pl ⟨p.r, p.k, p.steps ++ [⟨ix.toNat, 0, ie.cks.length⟩]⟩))
      | false, _ => (es[ix.toNat]?).bind fun row => k (.one (.rp row))
      | _, _ => none) else none
  | .array n e, .one (.pl p) => bound E e fun ie => pickN ix (fun j => k (.one (.pl (p.add (j * ie.cks.length))))) n
  | .array n e, .one (.rp cs) => bound E e fun ie => pickN ix (fun j => k (.one (.rp (cs.drop (j * ie.cks.length))))) n
  | _, _ => none
def sliceBoundsK (n : Nat) (lo hi : Option S) (k : Nat → Nat → Option Res) : Option Res :=
  let go (l h : Int) : Option Res := if 0 ≤ l ∧ l ≤ h ∧ h ≤ (n : Int) then k l.toNat h.toNat else none
  match lo, hi with
  | none, none => k 0 n
  | some (.one (.v (.int .i64 l))), none => go l n
  | none, some (.one (.v (.int .i64 h))) => go 0 h
  | some (.one (.v (.int .i64 l))), some (.one (.v (.int .i64 h))) => go l h
  | _, _ => none
def cutNl : Option Bool → Option Bool
  | some false => some false
  | _ => none
def St.sliceStrK (σ : St) (x : S) (lo hi : Option S) (k : S → St → Option Res) : Option Res :=
  match x with
  | .one (.v (.string s)) => sliceBoundsK s.size lo hi fun l h => k (.one (.v (.string (s.extract l h)))) σ
  | _ => none
/-- A slice of one's own, cut to be read. -/
def St.sliceWinK (σ : St) (n : Nat) (x : S) (lo hi : Option S) (k : S → St → Option Res) : Option Res :=
  match x with
  | .one (.al p) => σ.nodeK p fun d => (d.asOwn n).bind fun x => sliceBoundsK x.2.length lo hi fun l h => k (.one (.wi p n l h)) σ
  | _ => none
def St.sliceOpK (σ : St) (n : Nat) (x : S) (lo hi : Option S) (k : S → St → Option Res) : Option Res :=
  match x with
  | .one (.sl false nl sz es) => if sz = n then sliceBoundsK es.length lo hi fun l h => k (.one (.sl false (cutNl nl) n ((es.take h).drop l))) σ else none
  | .one (.al p) => σ.nodeK p fun d => (d.asOwn n).bind fun x => sliceBoundsK x.2.length lo hi fun l h =>
      k (.one (.al ⟨σ.boxes.length, 0, []⟩)) (((σ.put p .unk).kill (C.beyond p)).new true [.sl true (cutNl x.1) n ((x.2.take h).drop l)])
  | _ => none
def bytesOf : List (List C) → Option (List UInt8)
  | [] => some []
  | [.v (.int .u8 n)] :: rest => (bytesOf rest).map fun l => UInt8.ofNat n.toNat :: l
  | _ => none
def bytesRows (s : ByteArray) : List (List C) := s.data.toList.map fun b => [.v (.int .u8 b.toNat)]
def apNl (nl : Option Bool) (es : List (List C)) : Option Bool :=
  match nl with
  | some false => some false
  | nl => match es with
    | _ :: _ => some false
    | [] => nl
/-- The slice onto which is appended: a nil slice has elements of every size. -/
def C.asBase (n : Nat) : C → Option (Option Bool × List (List C))
  | .sl true nl sz es => if sz = n then some (nl, es) else (match nl, es with
    | some true, [] => some (some true, [])
    | _, _ => none)
  | _ => none
def C.isV : C → Bool
  | .v _ => true
  | _ => false
/-- Elements that own nothing. -/
def rowsV (es : List (List C)) : Bool := es.all fun row => row.all C.isV
def appendWith (σ : St) (n bytes : Nat) (y : Option Bool × List (List C)) (es : List (List C)) (k : S → St → Option Res) : Option Res :=
  if (y.2.length + es.length) * bytes ≤ LIM then k (.one (.al ⟨σ.boxes.length, 0, []⟩)) (σ.new true [.sl true (apNl y.1 es) n (y.2 ++ es)]) else none
def St.appendK (E : Env) (σ : St) (t : TypeId) (s x : S) (k : S → St → Option Res) : Option Res :=
  bound E t fun i => match i.kind with
    | .slice e => bound E e fun ie => match s with
      | .one s => σ.takeK s fun d σ => (d.asBase ie.cks.length).bind fun y => match x with
        | .one x => if ie.cks.all CK.plain then σ.sliceK ie.cks.length x fun o _ es' => if o && !rowsV es' then none else appendWith σ ie.cks.length ie.bytes y es' k
            else σ.takeK x fun d' σ => (d'.asOwn ie.cks.length).bind fun y' => appendWith σ ie.cks.length ie.bytes y y'.2 k
        | _ => none
      | _ => none
    | _ => none
end Go.Proofs.Gh
