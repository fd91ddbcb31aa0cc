/- The ghost semantics, second part: calls, regions, code, functions. Definitions alone. -/
import Derived.Test.YtmpnmcnjhpekaaaGh1
namespace Go.Proofs.Gh
/-! ### Calls -/
mutual
def C.freeze : C → C
  | .sl _ nl sz es => .sl false nl sz (freezeRows es)
  | .mp _ => .unk
  | c => c
def freezeRows : List (List C) → List (List C)
  | [] => []
  | r :: rs => freezeRow r :: freezeRows rs
def freezeRow : List C → List C
  | [] => []
  | c :: cs => c.freeze :: freezeRow cs
end
/-- What a function value holds, as a callee sees it: a box that stays is only read there. -/
def showCapK (keeps : Bool) (lent : List Nat) (σ : St) (x : C) (k : C → Option Res) : Option Res :=
  match x with
  | .v x => k (.v x)
  | .sl false nl sz es => k (.sl false nl sz es)
  | .rp cs => k (.rp cs)
  | .pl ⟨r, 0, []⟩ => if keeps || lent.contains r then none else (σ.boxes[r]?).bind fun b => if b.cs.all C.nested then k (.rp ((freezeRow b.cs).map C.weak)) else none
  | _ => none
def showCapsK (keeps : Bool) (lent : List Nat) (σ : St) : List C → (List C → Option Res) → Option Res
  | [], k => k []
  | x :: xs, k => showCapK keeps lent σ x fun d => showCapsK keeps lent σ xs fun ds => k (d :: ds)
/-- What a callee sees of what stays the caller's. -/
def showCellK (keeps : Bool) (lent : List Nat) (σ : St) (x : C) (k : C → Option Res) : Option Res :=
  match x with
  | .al p => if keeps then none else σ.nodeK p fun d => if d.nested then k d.freeze else none
  | .wi p sz l h => if keeps then none else σ.nodeK p fun d => if d.nested then (match d.freeze with
    | .sl false nl sz' es => if sz' = sz then k (.sl false (cutNl nl) sz ((es.take h).drop l)) else none
    | _ => none) else none
  | .sl _ nl sz es => k (.sl false nl sz es)
  | .fn f cs => showCapsK keeps lent σ cs fun ds => k (.fn f ds)
  | .pl p => showCapK keeps lent σ (.pl p) k
  | .bx _ => none
  | .pa _ _ _ => none
  | .mp _ => none
  | x => k x
def showCellsK (keeps : Bool) (lent : List Nat) (σ : St) : List C → (List C → Option Res) → Option Res
  | [], k => k []
  | x :: xs, k => showCellK keeps lent σ x fun d => showCellsK keeps lent σ xs fun ds => k (d.weak :: ds)
def showK (keeps : Bool) (lent : List Nat) (σ : St) (x : S) (k : S → Option Res) : Option Res :=
  match x with
  | .one x => showCellK keeps lent σ x fun d => k (.one d)
  | .agg xs => showCellsK keeps lent σ xs fun ds => k (.agg ds)
  | .tup _ => none
def showsK (keeps : Bool) (lent : List Nat) (σ : St) : List Mode → List S → (List S → Option Res) → Option Res
  | [], [], k => k []
  | .ro :: ms, x :: xs, k => showK keeps lent σ x fun d => showsK keeps lent σ ms xs fun ds => k (d :: ds)
  | _ :: ms, x :: xs, k => showsK keeps lent σ ms xs fun ds => k (x :: ds)
  | _, _, _ => none
/-- What dies when a box is lent. -/
def C.hitBox (r : Nat) : C → Bool
  | .al p => p.r == r
  | .wi p _ _ _ => p.r == r
  | .pl p => p.r == r && !p.steps.isEmpty
  | .pa r' _ ps => r' == r || paAny (fun p => p.r == r) ps
  | _ => false
/-- What is handed over, or lent. -/
def lendCellK (bxs : List Nat) (σ : St) (x : C) (k : C → St → Option Res) : Option Res :=
  match x with
  | .al p => if bxs.contains p.r then none else σ.nodeK p fun d => d.ownAny.bind fun x => k (.sl true x.1 x.2.1 x.2.2) ((σ.put p .unk).kill (C.beyond p))
  | .sl true nl sz [] => k (.sl true nl sz []) σ
  | .v x => k (.v x) σ
  | .ifc b => k (.ifc b) σ
  | _ => none
def lendCellsK (bxs : List Nat) : St → List C → (List C → St → Option Res) → Option Res
  | σ, [], k => k [] σ
  | σ, x :: xs, k => lendCellK bxs σ x fun d σ => lendCellsK bxs σ xs fun ds σ => k (d :: ds) σ
def lendBoxK (σ : St) (p : Place) (k : S → St → Option Res) : Option Res :=
  match p.k, p.steps with
  | 0, [] => (σ.boxes[p.r]?).bind fun b => if b.free = false ∧ b.cs.all C.nested then k (.one (.bx b.cs)) ({ σ with boxes := σ.boxes.set p.r ⟨false, b.cs.map fun _ => .unk⟩ }.kill (C.hitBox p.r)) else none
  | _, _ => none
def lendK (bxs : List Nat) (σ : St) (m : Mode) (x : S) (k : S → St → Option Res) : Option Res :=
  match m, x with
  | .ro, x => k x σ
  | .io, .one (.pl p) => lendBoxK σ p k
  | _, .one x => lendCellK bxs σ x fun d σ => k (.one d) σ
  | _, .agg xs => lendCellsK bxs σ xs fun ds σ => k (.agg ds) σ
  | _, .tup _ => none
def lendsK (bxs : List Nat) : St → List Mode → List S → (List S → St → Option Res) → Option Res
  | σ, [], [], k => k [] σ
  | σ, m :: ms, x :: xs, k => lendK bxs σ m x fun d σ => lendsK bxs σ ms xs fun ds σ => k (d :: ds) σ
  | _, _, _, _ => none
/-- The boxes that a call may write. -/
def boxesOf : List Mode → List S → List Nat
  | .io :: ms, .one (.pl p) :: xs => p.r :: boxesOf ms xs
  | _ :: ms, _ :: xs => boxesOf ms xs
  | _, _ => []
def exportsK (keeps : Bool) (σ : St) (ms : List Mode) (xs : List S) (k : List S → St → Option Res) : Option Res :=
  if (boxesOf ms xs).Nodup then lendsK (boxesOf ms xs) σ ms xs fun ys σ => showsK keeps (boxesOf ms xs) σ ms ys fun zs => k zs σ else none
def importCellK (σ1 σ : St) (x out : C) (k : St → Option Res) : Option Res :=
  match x with
  | .al p => match out with
    | .sl true nl sz es => σ1.nodeK p fun _ => σ.nodeK p fun _ => k ((σ.put p (.sl true nl sz es)).kill (C.beyond p))
    | _ => none
  | _ => k σ
def importCellsK (σ1 : St) : St → List C → List C → (St → Option Res) → Option Res
  | σ, [], _, k => k σ
  | σ, x :: xs, os, k => (os.head?).bind fun o => importCellK σ1 σ x o fun σ => importCellsK σ1 σ xs os.tail k
def importK (σ1 σ : St) (x out : S) (k : St → Option Res) : Option Res :=
  match x, out with
  | .one (.pl p), .one (.bx cs) => (σ.boxes[p.r]?).bind fun b => if cs.length = b.cs.length then k ({ σ with boxes := σ.boxes.set p.r ⟨b.free, cs⟩ }.kill (C.hitBox p.r)) else none
  | .one (.al p), .one c => importCellK σ1 σ (.al p) c k
  | .one (.sl _ _ _ _), _ => k σ
  | .agg xs, .agg cs => importCellsK σ1 σ xs cs k
  | _, _ => none
def importsK (σ1 : St) : St → List Mode → List S → List S → (St → Option Res) → Option Res
  | σ, .io :: ms, x :: xs, os, k => (os.head?).bind fun o => importK σ1 σ x o fun σ => importsK σ1 σ ms xs os.tail k
  | σ, _ :: ms, _ :: xs, os, k => importsK σ1 σ ms xs os.tail k
  | σ, _, _, _, k => k σ
/-- A result's cells by their kinds. -/
def shapeRes : List CK → List C → (List C → Option Res) → Option Res
  | [], _, k => k []
  | .sl n :: cks, cs, k => (cs.head?).bind fun c => (c.asOwn n).bind fun d => shapeRes cks cs.tail fun cs' => k (.sl true d.1 n d.2 :: cs')
  | ck :: cks, cs, k => (cs.head?).bind fun c => shapeC ck c fun c' => shapeRes cks cs.tail fun cs' => k (c' :: cs')
def S.parts : S → Option (List S)
  | .tup xs => some xs
  | _ => none
def S.cells? (agg : Bool) : S → Option (List C)
  | .one x => if agg then none else some [x]
  | .agg xs => if agg then some xs else none
  | .tup _ => none
def shapeOneK (i : TI) (s : S) (k : S → Option Res) : Option Res := (s.cells? i.agg).bind fun cs => if cs.length = i.cks.length then shapeRes i.cks cs fun cs' => k (S.mk i.agg cs') else none
def shapePartsK (E : Env) : List TypeId → List S → (List S → Option Res) → Option Res
  | [], _, k => k []
  | t :: ts, ss, k => bound E t fun i => (ss.head?).bind fun s => shapeOneK i s fun s' => shapePartsK E ts ss.tail fun ss' => k (s' :: ss')
def shapeSK (E : Env) (t : TypeId) (s : S) (k : S → Option Res) : Option Res :=
  match E.ty t with
  | some i => (match i.kind with
    | .tuple ts => s.parts.bind fun ss => if ss.length = ts.length then shapePartsK E ts ss fun ss' => k (.tup ss') else none
    | _ => shapeOneK i s k)
  | none => none
def S.one? : S → Option C
  | .one c => some c
  | _ => none
def S.bx? : S → Option (List C)
  | .one (.bx cs) => some cs
  | _ => none
def S.agg? : S → Option (List C)
  | .agg cs => some cs
  | _ => none
/-- A pointer to a new box of three cells. -/
def C.asCur (n : Nat) : C → Option (Option Bool × List (List C) × Int × Int)
  | .bx [.sl false nl sz es, .v (.int .i64 a), .v (.int .i64 b)] => if sz = n then some (nl, es, a, b) else none
  | _ => none
def shapeOut (ok : OutK) (s : S) (k : S → Option Res) : Option Res :=
  match ok with
  | .no => k s
  | .sl n => (s.one?).bind fun c => (c.asOwn n).bind fun d => k (.one (.sl true d.1 n d.2))
  | .bx cks => (s.bx?).bind fun cs => if cs.length = cks.length then shapeRes cks cs fun cs' => k (.one (.bx cs')) else none
  | .agg cks => (s.agg?).bind fun cs => if cs.length = cks.length then shapeRes cks cs fun cs' => k (.agg cs') else none
  | .cur _ => k s
  | .cub n => (s.one?).bind fun c => (c.asCur n).bind fun x => k (.one (.bx [.sl false x.1 n x.2.1, .v (.int .i64 x.2.2.1), .v (.int .i64 x.2.2.2)]))
def shapeOuts : List OutK → List S → (List S → Option Res) → Option Res
  | [], os, k => k os
  | ok :: ks, os, k => (os.head?).bind fun s => shapeOut ok s fun s' => shapeOuts ks os.tail fun ss => k (s' :: ss)
def S.noBx : S → Bool
  | .one (.bx _) => false
  | .tup (.one (.bx _) :: _) => false
  | _ => true
def Mode.isRo : Mode → Bool
  | .ro => true
  | _ => false
/-- A result, into a slot. -/
def St.homeRes (σ : St) (strict : Bool) (oks : List OutK) (s : S) (k : S → St → Option Res) : Option Res :=
  match oks with
  | .cur n :: _ => match s with
    | .one c => (c.asCur n).bind fun x => k (.one (.pl ⟨σ.boxes.length, 0, []⟩)) (σ.new false [.sl false x.1 n x.2.1, .v (.int .i64 x.2.2.1), .v (.int .i64 x.2.2.2)])
    | .tup (.one c :: ss) => (c.asCur n).bind fun x => St.homesS (σ.new false [.sl false x.1 n x.2.1, .v (.int .i64 x.2.2.1), .v (.int .i64 x.2.2.2)]) ss fun ss' σ' => k (.tup (.one (.pl ⟨σ.boxes.length, 0, []⟩) :: ss')) σ'
    | _ => none
  | _ => bif strict then (bif s.noBx then σ.homeS s k else none) else σ.homeS s k
def St.callK (E : Env) (σ : St) (f : FuncId) (args : List S) (t : TypeId) (k : S → St → Option Res) : Option Res :=
  match E.spec f with
  | some sp => exportsK sp.keeps σ sp.modes args fun ds σ => (sp.run ds).bind fun r => shapeOuts (E.outk f) r.2 fun os =>
      importsK σ (σ.kill fun c => (boxesOf sp.modes args).any fun r => c.hitBox r) sp.modes args os fun σ => shapeSK E t r.1 fun s => σ.homeRes (sp.keeps && sp.modes.all Mode.isRo) (E.outk f) s k
  | none => none
def St.lenK (E : Env) (σ : St) (t : TypeId) (x : S) (k : S → Option Res) : Option Res :=
  bound E t fun i => match i.cks, i.kind, x with
    | [.str], .scalar, .one (.v (.string s)) => k (.one (.int s.size))
    | [.sl n], .slice _, .one x => σ.sliceK n x fun _ _ es => k (.one (.int es.length))
    | _, _, _ => none
def St.builtinK (E : Env) (σ : St) (b : Builtin) (argTypes : List TypeId) (args : List S) (k : S → St → Option Res) : Option Res :=
  match b, argTypes, args with
  | .len, [t], [x] => σ.lenK E t x fun s => k s σ
  | .append, [t, t'], [s, x] => if t = t' then σ.appendK E t s x k else none
  | .min, _, [.one (.v (.int ki a)), .one (.v (.int ki' b))] => if ki = ki' then k (.one (.v (.int ki (if b < a then b else a)))) σ else none
  | .max, _, [.one (.v (.int ki a)), .one (.v (.int ki' b))] => if ki = ki' then k (.one (.v (.int ki (if b > a then b else a)))) σ else none
  | _, _, _ => none
def retypes (E : Env) : List TypeId → List S → List S
  | t :: ts, s :: ss => retype E t s :: retypes E ts ss
  | _, ss => ss
/-- What a function value captures. -/
def C.capt : C → Bool
  | .v _ => true
  | .sl false _ _ _ => true
  | .fn _ _ => true
  | .ifc _ => true
  | .pl p => p.steps.isEmpty
  | _ => false
def capsC : List S → Option (List C)
  | [] => some []
  | .one c :: ss => if c.capt then (capsC ss).map fun cs => c :: cs else none
  | _ :: _ => none
def St.mapSet (σ : St) (p : Place) (kvs : List (ByteArray × Value)) : St := (((σ.put p .unk).kill (C.beyond p)).put p (.mp kvs)).kill (C.beyond p)
/-- An array's parts. -/
def arrParts (sz : Nat) (agg : Bool) (n : Nat) : List (Nat × Nat × Bool) := (List.range n).map fun j => (j * sz, sz, agg)
def opK (E : Env) (σ : St) (o : Oper) (k : S → St → Option Res) : Option Res :=
  match o.op with
  | .move x => σ.homeS (retype E o.type (σ.view x)) k
  | .assign x => σ.homeS (retype E o.type (σ.view x)) k
  | .pick c a b => match σ.view c with
    | .one (.v (.bool t)) => bif t then σ.homeS (σ.view a) k else σ.homeS (σ.view b) k
    | _ => none
  | .alloc t => bound E t fun i => k (.one (.pl ⟨σ.boxes.length, 0, []⟩)) (σ.new false i.zero)
  | .box _ x => if (σ.view x).isTup then none else bif E.pas then (if (σ.view x).cells.all C.paOk then k (.one (.pa σ.boxes.length 0 ((σ.view x).cells.map C.pp))) (σ.new false ((σ.view x).cells.map C.calm)) else none)
      else takesK σ (σ.view x).cells fun cs σ => k (.one (.pl ⟨σ.boxes.length, 0, []⟩)) (σ.new false cs)
  | .build t ps => bound E t fun i => match i.kind with
    | .struct parts => (buildS E σ parts i.zero ps.toList).bind fun cs => σ.homeS (.agg cs) k
    | .array n e => bound E e fun ie => (buildS E σ (arrParts ie.cks.length ie.agg n) i.zero ps.toList).bind fun cs => σ.homeS (.agg cs) k
    | _ => none
  | .buildSlice t n ps => bound E t fun i => match i.kind with
    | .slice e => bound E e fun ie => if ps.size = n ∧ n * ie.cks.length ≤ 4096 ∧ 0 < ie.cks.length then buildRowsK E e ie.cks 0 σ ps.toList fun rows σ => k (.one (.al ⟨σ.boxes.length, 0, []⟩)) (σ.new true [.sl true (some false) ie.cks.length rows]) else none
    | _ => none
  | .load t x => bound E t fun i => σ.loadK i (σ.view x) fun s => k s σ
  | .store t x y => bound E t fun i => σ.storeK i (σ.view x) (retype E t (σ.view y)) fun σ => k (.one .unk) σ
  | .nilCheck x => match σ.view x with
    | .one (.pl p) => k (.one (.pl p)) σ
    | .one (.rp cs) => k (.one (.rp cs)) σ
    | .one (.fn f cs) => k (.one (.fn f cs)) σ
    | .one (.pa r j ps) => k (.one (.pa r j ps)) σ
    | _ => none
  | .binOp op t x y _ => binK E σ op t (σ.view x) (σ.view y) fun c => k (.one c) σ
  | .unOp op _ x => match op, σ.view x with
    | .not, .one (.v (.bool b)) => k (.one (.v (.bool !b))) σ
    | .neg, .one (.v (.int ki a)) => k (.one (.v (.int ki (ki.wrap (0 - a))))) σ
    | _, _ => none
  | .convert src dst x => bound E src fun j => bound E dst fun i => match i.kind, i.cks, σ.view x with
    | .scalar, [.int ki], .one (.v (.int _ n)) => k (.one (.v (.int ki (ki.wrap n)))) σ
    | .scalar, [.str], .one y => (match j.kind with
      | .slice e => bound E e fun ie => (match ie.kind, ie.cks with
        | .scalar, [.int .u8] => σ.sliceK 1 y fun _ _ es => (bytesOf es).bind fun l => k (.one (.v (.string ⟨l.toArray⟩))) σ
        | _, _ => none)
      | _ => none)
    | _, _, _ => none
  | .makeFunc (.func f) first caps => if first.isEmpty then (capsC (caps.toList.map σ.view)).bind fun cs => k (.one (.fn f cs)) σ else none
  | .makeSlice t n c => bound E t fun i => match i.kind, σ.view n, σ.view c with
    | .slice e, .one (.v (.int .i64 n)), .one (.v (.int .i64 c)) => bound E e fun ie => if 0 ≤ n ∧ n ≤ c ∧ c * ie.bytes ≤ (LIM : Int) ∧ 0 < ie.cks.length then
        k (.one (.al ⟨σ.boxes.length, 0, []⟩)) (σ.new true [.sl true (some false) ie.cks.length (List.replicate n.toNat (ie.zero.map C.weak))]) else none
    | _, _, _ => none
  | .slice t x lo hi none => bound E t fun i => match i.kind, i.cks with
    | .slice _, [.sl n] => bif E.win (o.dst.getD 0) then σ.sliceWinK n (σ.view x) (lo.map σ.view) (hi.map σ.view) k else σ.sliceOpK n (σ.view x) (lo.map σ.view) (hi.map σ.view) k
    | .scalar, [.str] => σ.sliceStrK (σ.view x) (lo.map σ.view) (hi.map σ.view) k
    | _, _ => none
  | .fieldAddr t x f => bound E t fun i => match i.kind with
    | .struct parts => (parts[f]?).bind fun q => match σ.view x with
      | .one (.pl p) => k (.one (.pl (p.add q.1))) σ
      | .one (.rp cs) => k (.one (.rp (cs.drop q.1))) σ
      | .one (.pa r j ps) => k (.one (.pa r (j + q.1) (ps.drop q.1))) σ
      | _ => none
    | _ => none
  | .field t x f => bound E t fun i => match i.kind with
    | .struct parts => (parts[f]?).bind fun q => match σ.view x with
      | .agg xs => if q.2.2 then k (.agg ((xs.drop q.1).take q.2.1)) σ else (xs[q.1]?).bind fun c => k (.one c) σ
      | _ => none
    | _ => none
  | .indexAddr t x ix => bound E t fun i => match σ.view ix with
    | .one (.v (.int _ n)) => σ.indexAddrK E i (σ.view x) n fun s => k s σ
    | _ => none
  | .index t x ix => bound E t fun i => match i.cks, i.kind, σ.view x, σ.view ix with
    | [.str], .scalar, .one (.v (.string s)), .one (.v (.int _ n)) => if 0 ≤ n ∧ n < (s.size : Int) then k (.one (.v (.int .u8 (s.data.toList.getD n.toNat 0).toNat))) σ else none
    | _, .array n e, .agg xs, .one (.v (.int _ v)) => bound E e fun ie => bif ie.agg then none else pickN v (fun j => (xs[j * ie.cks.length]?).bind fun c => k (.one c) σ) n
    | _, _, _, _ => none
  | .makeMap _ none => k (.one (.al ⟨σ.boxes.length, 0, []⟩)) (σ.new true [.mp []])
  | .mapUpdate t m x y => bound E t fun i => match i.mapz, σ.view m, σ.view x, σ.view y with
    | some _, .one (.al ⟨r, j, []⟩), .one (.v (.string s)), .one (.v u) => ((σ.root r j).bind C.asMap).bind fun kvs => match mapGet s kvs with
      | none => k (.one .unk) (σ.mapSet ⟨r, j, []⟩ (kvs ++ [(s, u)]))
      | some _ => none
    | _, _, _, _ => none
  | .lookup t m x false => bound E t fun i => match i.mapz, σ.view m, σ.view x with
    | some z, .one (.al ⟨r, j, []⟩), .one (.v (.string s)) => ((σ.root r j).bind C.asMap).bind fun kvs => shapeC (zCK z) (.v ((mapGet s kvs).getD z)) fun c => k (.one c) σ
    | _, _, _ => none
  | .extract (.tmp t) n => match σ.slot t with
    | .tup ss => (ss[n]?).bind fun s => k s σ
    | _ => none
  | .call c => match c.callee with
    | .value f => match σ.view f with
      | .one (.fn f caps) => σ.callK E f (retypes E c.argTypes.toList (c.args.toList.map σ.view) ++ caps.map S.one) o.type k
      | _ => none
    | .builtin b => σ.builtinK E b c.argTypes.toList (retypes E c.argTypes.toList (c.args.toList.map σ.view)) k
    | _ => none
  | _ => none
/-- A region's operations, in the order of the text. -/
def opsK (E : Env) (ops : Array Oper) : List Oper → St → (St → Option Res) → Option Res
  | [], σ, k => k σ
  | o :: rest, σ, k => match o.guard with
    | none => opK E σ o fun s σ' => opsK E ops rest (σ'.assign? o.dst s) k
    | some (j, want) => match (ops[j]?).bind (·.dst) with
      | some d => match σ.slot d with
        | .one (.v (.bool b)) =>
          let yes (σ : St) : Option Res := opK E σ o fun s σ' => opsK E ops rest (σ'.assign? o.dst s) k
          let no (σ : St) : Option Res := opsK E ops rest (σ.assign? o.dst (.tup [])) k
          bif b then (let σ := σ.assign d (.one (.v (.bool true))); bif want then yes σ else no σ)
          else (let σ := σ.assign d (.one (.v (.bool false))); bif want then no σ else yes σ)
        | .tup [] => opsK E ops rest (σ.assign? o.dst (.tup [])) k
        | _ => none
      | none => none

inductive Ex where
  | normal
  | exit (id : Nat)
  | ret
def paKeep (n : Nat) : Option Place → Bool
  | some p => decide (p.r < n) && p.steps.isEmpty
  | none => true
/-- Of what a loop's round leaves, what its head may name: places in the first n boxes. -/
def C.keep (n : Nat) : C → C
  | .pl p => if p.r < n then .pl p else .unk
  | .al p => if p.r < n then .al p else .unk
  | .wi _ _ _ _ => .unk
  | .fn f cs => if cs.all (fun c => match c with
    | .v _ => true
    | .sl false _ _ _ => true
    | .pl p => p.r < n
    | .rp _ => true
    | _ => false) then .fn f cs else .unk
  | .pa r k ps => if r < n ∧ ps.all (paKeep n) = true then .pa r k ps else .unk
  | c => c
def S.keep (n : Nat) : S → S
  | .one x => .one (x.keep n)
  | .agg xs => .agg (xs.map (·.keep n))
  | .tup _ => .one .unk
/-- A kept slot's content, out of its free box. -/
def pullC (n : Nat) (σ : St) (c : C) (k : C → St → Option Res) : Option Res :=
  match c with
  | .al p => match σ.boxes[p.r]? with
    | some ⟨true, _⟩ => match p.steps with
      | [] => σ.nodeK p fun d => match d with
        | .sl true nl sz es => k (.sl true nl sz es) ((σ.put p .unk).kill (C.beyond p))
        | .mp kvs => k (.mp kvs) ((σ.put p .unk).kill (C.beyond p))
        | _ => k .unk σ
      | _ => k .unk σ
    | _ => k ((C.al p).keep n) σ
  | .pl p => match σ.boxes[p.r]? with
    | some ⟨true, _⟩ => k .unk σ
    | _ => k ((C.pl p).keep n) σ
  | .sl true nl sz [] => k (.sl true nl sz []) σ
  | .sl true _ _ _ => none
  | .mp _ => none
  | c => k (c.keep n) σ
def pullsC (n : Nat) : St → List C → (List C → St → Option Res) → Option Res
  | σ, [], k => k [] σ
  | σ, c :: cs, k => pullC n σ c fun d σ => pullsC n σ cs fun ds σ => k (d :: ds) σ
def pullS (n : Nat) (σ : St) (s : S) (k : S → St → Option Res) : Option Res :=
  match s with
  | .one c => pullC n σ c fun d σ => k (.one d) σ
  | .agg cs => pullsC n σ cs fun ds σ => k (.agg ds) σ
  | .tup _ => k (.one .unk) σ
def gatherK (n : Nat) : List Nat → St → (List (Nat × S) → St → Option Res) → Option Res
  | [], σ, k => k [] σ
  | t :: ts, σ, k => pullS n σ (σ.slot t) fun s σ => gatherK n ts σ fun l σ => k ((t, s) :: l) σ
def placeK : List (Nat × S) → St → (St → Option Res) → Option Res
  | [], σ, k => k σ
  | (t, s) :: l, σ, k => σ.homeS s fun s σ => placeK l (σ.assign t s) k
/-- The first n boxes alone. -/
def St.trunc (σ : St) (n : Nat) : St := ⟨List.replicate σ.slots.length (.one .unk), (σ.boxes.take n).map fun b => ⟨b.free, b.cs.map fun c => if b.free then .unk else c.keep n⟩⟩
/-- At a loop's head. -/
def forgetK (keep : List Nat) (n : Nat) (σ : St) (k : St → Option Res) : Option Res :=
  if n ≤ σ.boxes.length then gatherK n keep σ fun l σ => placeK l (σ.trunc n) k else none
def loopK (body : St → (Ex → St → Option Res) → Option Res) (keep : List Nat) (n : Nat) : Nat → St → (Ex → St → Option Res) → Option Res
  | 0, _, _ => none
  | m + 1, σ, k => forgetK keep n σ fun σ => body σ fun e σ' => match e with
    | .normal => loopK body keep n m σ' k
    | e => k e σ'
def firstRegion : Code → Nat
  | .region id _ _ => id
  | .seq a _ => firstRegion a
  | .block _ b => firstRegion b
  | .loop b => firstRegion b
  | _ => 0
def codeK (E : Env) (draws : Array Oper → Bool) (keep : Nat → List Nat) (m : Nat) : Code → St → (Ex → St → Option Res) → Option Res
  | .skip, σ, k => k .normal σ
  | .region _ ops d, σ, k => if d then (if draws ops then opsK E ops ops.toList σ (k .normal) else none) else opsK E ops ops.toList σ (k .normal)
  | .seq a b, σ, k => codeK E draws keep m a σ fun e σ' => match e with
    | .normal => codeK E draws keep m b σ' k
    | e => k e σ'
  | .cond c a b, σ, k => match σ.view c with
    | .one (.v (.bool t)) => bif t then codeK E draws keep m a σ k else codeK E draws keep m b σ k
    | _ => none
  | .block id body, σ, k => codeK E draws keep m body σ fun e σ' => match e with
    | .exit j => if j = id then k .normal σ' else k (.exit j) σ'
    | e => k e σ'
  | .loop body, σ, k => loopK (codeK E draws keep m body) (keep (firstRegion body)) σ.boxes.length m σ k
  | .exit id, σ, k => k (.exit id) σ
  | .ret, σ, k => k .ret σ
  | _, _, _ => none

/-! ### A function -/
def enter : List Mode → List S → List Box → List S × List Box
  | .io :: ms, .one (.sl true nl sz es) :: xs, bs => let r := enter ms xs (bs ++ [⟨false, [.sl true nl sz es]⟩]); (.one (.al ⟨bs.length, 0, []⟩) :: r.1, r.2)
  | .io :: ms, .one (.bx cs) :: xs, bs => let r := enter ms xs (bs ++ [⟨false, cs⟩]); (.one (.pl ⟨bs.length, 0, []⟩) :: r.1, r.2)
  | .io :: ms, .agg cs :: xs, bs => let r := enter ms xs (bs ++ [⟨false, cs⟩]); (.agg (viewBox cs bs.length 0) :: r.1, r.2)
  | .tk :: ms, .one (.sl true nl sz es) :: xs, bs => let r := enter ms xs (bs ++ [⟨true, [.sl true nl sz es]⟩]); (.one (.al ⟨bs.length, 0, []⟩) :: r.1, r.2)
  | .tk :: ms, .agg cs :: xs, bs => let r := enter ms xs (bs ++ [⟨true, cs⟩]); (.agg (viewBox cs bs.length 0) :: r.1, r.2)
  | _ :: ms, x :: xs, bs => let r := enter ms xs bs; (x :: r.1, r.2)
  | [], _, bs => ([], bs)
  | _, [], bs => ([], bs)
def outs : List Mode → List S → List Box → List S
  | .io :: ms, .one (.sl true _ _ _) :: xs, b :: bs => .one (b.cs.headD .unk) :: outs ms xs bs
  | .io :: ms, .one (.bx _) :: xs, b :: bs => .one (.bx b.cs) :: outs ms xs bs
  | .io :: ms, .agg _ :: xs, b :: bs => .agg b.cs :: outs ms xs bs
  | .tk :: ms, .one (.sl true _ _ _) :: xs, _ :: bs => .one .unk :: outs ms xs bs
  | .tk :: ms, .agg _ :: xs, _ :: bs => .one .unk :: outs ms xs bs
  | _ :: ms, _ :: xs, bs => .one .unk :: outs ms xs bs
  | [], _, _ => []
  | _, [], _ => []
def takeS (σ : St) (s : S) (k : S → St → Option Res) : Option Res :=
  match s with
  | .one x => σ.takeK x fun d σ => k (.one d) σ
  | .agg xs => takesK σ xs fun ds σ => k (.agg ds) σ
  | .tup _ => none
def resultK (E : Env) (σ : St) (r : ResultVar) (k : S → St → Option Res) : Option Res :=
  match r with
  | .tmp t => takeS σ (σ.slot t) k
  | .cell a t => bound E t fun i => σ.loadK i (σ.slot a) fun s => takeS σ s k
def resultsK (E : Env) : St → List ResultVar → (List S → St → Option Res) → Option Res
  | σ, [], k => k [] σ
  | σ, r :: rs, k => resultK E σ r fun s σ => resultsK E σ rs fun ss σ => k (s :: ss) σ
def S.pack : List S → S
  | [s] => s
  | ss => .tup ss
mutual
def C.free : C → Bool
  | .sl o _ _ es => o && rowsFree es
  | .fn _ cs => cs.all C.isV
  | .rp _ => false
  | .mp _ => false
  | _ => true
def rowsFree : List (List C) → Bool
  | [] => true
  | r :: rs => rowFree r && rowsFree rs
def rowFree : List C → Bool
  | [] => true
  | c :: cs => c.free && rowFree cs
end
/-- What may come back from a call. -/
def C.leaves (keeps : Bool) (c : C) : Bool := c.nested && (keeps || c.free)
def S.leaves (keeps : Bool) (s : S) : Bool := match s with
  | .one (.bx cs) => cs.all (C.leaves keeps)
  | .one c => c.leaves keeps
  | .agg cs => cs.all (C.leaves keeps)
  | .tup _ => false
/-- A lent box keeps its size. -/
def lensOk : List S → List S → Bool
  | .one (.bx cs) :: xs, .one (.bx cs') :: os => cs.length == cs'.length && lensOk xs os
  | _ :: xs, _ :: os => lensOk xs os
  | _, _ => true
/-- A pointer to a box of the call's own, the first of what comes back: with what it points to. -/
def headBox (keeps : Bool) (modes : List Mode) (σ : St) (ss : List S) (k : List S → Option Res) : Option Res :=
  match ss with
  | .one (.pl ⟨r, 0, []⟩) :: ss => (σ.boxes[r]?).bind fun b => if (((keeps && modes.all Mode.isRo) && !b.free) && !b.cs.isEmpty) && b.cs.all (fun c => C.leaves keeps c && !c.asOwnB) then k (.one (.bx b.cs) :: ss) else none
  | ss => k ss
def leaveK (E : Env) (keeps : Bool) (rs : List ResultVar) (modes : List Mode) (args : List S) (σ : St) : Option Res :=
  resultsK E σ rs fun ss σ => headBox keeps modes σ ss fun ss => if (ss.all (S.leaves keeps) && (outs modes args σ.boxes).all (S.leaves keeps)) && lensOk args (outs modes args σ.boxes) then some (S.pack ss, outs modes args σ.boxes) else none
def funcK (E : Env) (draws : Array Oper → Bool) (keep : Nat → List Nat) (keeps : Bool) (m : Nat) (modes : List Mode) (fn : Func) (args : List S) : Option Res :=
  match fn.body with
  | some c =>
    if modes.length = args.length then
      let r := enter modes args []
      codeK E draws keep m c ⟨r.1 ++ List.replicate (fn.ntmps - args.length) (.one .unk), r.2⟩ fun e σ => match e with
        | .exit _ => none
        | _ => leaveK E keeps fn.results.toList modes args σ
    else none
  | none => none
end Go.Proofs.Gh
