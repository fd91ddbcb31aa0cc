/-
  No cell of these rows narrows 'for every input' (looked for: loops, veiled, ifaces, maps, wideKeys, modest, calm, conditions, laid).
  DERIVED. THE GIVEN ROWS OF THIS SEAT. 2 by the template 'for every input the law returns true; each argument reads behind the call as it read before'; 0 by the template 'total and deterministic' (their statements: YtnnbpmemkekbfaaGreatTotals.lean).
  GIVEN WITH THE SEED: the statements are not yours to turn. If you find one false, say at which input.
  Laid BY PROGRAM, IN A SANDBOX (cutbox-rows.mjs): the forced cells as the released guide's own fill.sh prints them over the translation ecd9bf30b8d71ef6… (all of the seat's roots in one cut). By AI agents, Wed Nov 11 2026. No macro, syntax, notation, axiom, sorry.
-/
import Derived.Test.YtnnbpmemkekbfaaGreatChecked
import GoSem.Claim
import GoSem.ClaimJoined
import GoSem.ClaimMapViews
import Derived.JoinedTies
import Derived.KernelRfl
namespace Go.Proofs.YtnnbpmemkekbfaaGreat
/- THE CELL 'sum', in the pinned program and in every row, IS THE sha256 OF THE DUMP (.gsa) THAT YtnnbpmemkekbfaaGreatProg.lean LOADS. Nothing in Lean hashes anything: it is a label: what it is worth is what the hold of that sum in a sandbox is worth. -/
noncomputable def Tryz.pinned : Pinned := { name := "ytnnbpmemkekbfaagreat", sum := "ecd9bf30b8d71ef650faf777b5300f41f89ab6175eddbee4861a480f64313473", checked := Tryz.checked }
namespace Rows
def none {H : Type} : Left H := { results := [], args := [] }

/-- 'laws.FnExactDoMove': WHATEVER THE INPUT: true; the input reads as it did. -/
def fnExactDoMoveSpec : ChangeSpec := { name := "fnExactDoMove", fn := fun _ => fun
  | [d1, d2, d3] => { results := [.lit (.bool true)], args := [d1, d2, d3] }
  | _ => none }
def fnExactDoMoveRow : OpenClaim := { program := "ytnnbpmemkekbfaagreat", sum := "ecd9bf30b8d71ef650faf777b5300f41f89ab6175eddbee4861a480f64313473", func := "loop.example/g00712/laws.FnExactDoMove", spec := "fnExactDoMove", unfollowed := true, recurses := true, apart := false }
def FnExactDoMoveSaid : Prop := fnExactDoMoveRow.holds Tryz.pinned (OpenSpec.ofChange fnExactDoMoveSpec)

/-- ITS FALSE NEIGHBOUR: 'it returns false'. Refute it at one input. -/
def fnExactDoMoveWrong : ChangeSpec := { name := "fnExactDoMove", fn := fun _ => fun
  | [d1, d2, d3] => { results := [.lit (.bool false)], args := [d1, d2, d3] }
  | _ => none }
def FnExactDoMoveWrongFalsely : Prop := fnExactDoMoveRow.holds Tryz.pinned (OpenSpec.ofChange fnExactDoMoveWrong)

/-- 'laws.FnExactStepPlain': WHATEVER THE INPUT: true; the input reads as it did. -/
def fnExactStepPlainSpec : ChangeSpec := { name := "fnExactStepPlain", fn := fun _ => fun
  | [d1, d2, d3] => { results := [.lit (.bool true)], args := [d1, d2, d3] }
  | _ => none }
def fnExactStepPlainRow : OpenClaim := { program := "ytnnbpmemkekbfaagreat", sum := "ecd9bf30b8d71ef650faf777b5300f41f89ab6175eddbee4861a480f64313473", func := "loop.example/g00712/laws.FnExactStepPlain", spec := "fnExactStepPlain", unfollowed := true, recurses := true, apart := false }
def FnExactStepPlainSaid : Prop := fnExactStepPlainRow.holds Tryz.pinned (OpenSpec.ofChange fnExactStepPlainSpec)

/-- ITS FALSE NEIGHBOUR: 'it returns false'. Refute it at one input. -/
def fnExactStepPlainWrong : ChangeSpec := { name := "fnExactStepPlain", fn := fun _ => fun
  | [d1, d2, d3] => { results := [.lit (.bool false)], args := [d1, d2, d3] }
  | _ => none }
def FnExactStepPlainWrongFalsely : Prop := fnExactStepPlainRow.holds Tryz.pinned (OpenSpec.ofChange fnExactStepPlainWrong)

/- THE SECOND FORM. 'bulk': how many values and letters a reading holds, each counted each time it is reached (what is shared counts as often as it is met; a slice's spare places count too). A statement '..UptoSaid' is the law's where the arguments, and the package variables that the reading takes, are together of bulk at most 1048576: NARROWER than '..Said'. Prove '..Said' where nothing that the law and all that it calls make is longer than what came in: it says more and counts as full. Else prove '..UptoSaid'. A law counts once. -/
mutual
def uptoBulk {H : Type} : DataW H → Nat
  | .lit (.string bytes) => bytes.length + 1
  | .lit _ => 1
  | .nil => 1
  | .ptr d => uptoBulk d + 1
  | .slice elems spare => uptoBulkAll elems + uptoBulkAll spare + 1
  | .agg parts => uptoBulkAll parts + 1
  | .iface _ d => uptoBulk d + 1
  | .map entries => uptoBulkEntries entries + 1
  | .held _ => 1
def uptoBulkAll {H : Type} : List (DataW H) → Nat
  | [] => 0
  | d :: r => uptoBulk d + uptoBulkAll r
def uptoBulkEntries {H : Type} : List (Lit × DataW H) → Nat
  | [] => 0
  | x :: r => uptoBulkEntry x + uptoBulkEntries r
def uptoBulkEntry {H : Type} : Lit × DataW H → Nat
  | (.string bytes, d) => bytes.length + uptoBulk d + 1
  | (_, d) => uptoBulk d + 1
 end
def uptoSmall : (H : Type) → List (DataW H) → Bool := fun _ ds => decide (uptoBulkAll ds ≤ 1048576)
def OpenSpec.upto (s : _root_.Go.ChangeSpec) : _root_.Go.OpenSpec := { _root_.Go.OpenSpec.ofChange s with cond := some uptoSmall }

/-- 'laws.FnExactDoMove', WHERE WHAT IT READS IS OF BULK AT MOST 1048576: true; the input reads as it did. -/
def fnExactDoMoveUptoRow : OpenClaim := { program := "ytnnbpmemkekbfaagreat", sum := "ecd9bf30b8d71ef650faf777b5300f41f89ab6175eddbee4861a480f64313473", func := "loop.example/g00712/laws.FnExactDoMove", spec := "fnExactDoMove", unfollowed := true, recurses := true, apart := false, narrowed := true }
def FnExactDoMoveUptoSaid : Prop := fnExactDoMoveUptoRow.holds Tryz.pinned (OpenSpec.upto fnExactDoMoveSpec)

/-- 'laws.FnExactStepPlain', WHERE WHAT IT READS IS OF BULK AT MOST 1048576: true; the input reads as it did. -/
def fnExactStepPlainUptoRow : OpenClaim := { program := "ytnnbpmemkekbfaagreat", sum := "ecd9bf30b8d71ef650faf777b5300f41f89ab6175eddbee4861a480f64313473", func := "loop.example/g00712/laws.FnExactStepPlain", spec := "fnExactStepPlain", unfollowed := true, recurses := true, apart := false, narrowed := true }
def FnExactStepPlainUptoSaid : Prop := fnExactStepPlainUptoRow.holds Tryz.pinned (OpenSpec.upto fnExactStepPlainSpec)

end Rows
end Go.Proofs.YtnnbpmemkekbfaaGreat
