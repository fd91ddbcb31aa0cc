/-
  No cell of these rows narrows 'for every input' (looked for: loops, veiled, ifaces, maps, wideKeys, modest, calm, conditions, laid).
  DERIVED. THE GIVEN ROWS OF THIS SEAT. 6 by the template 'for every input the law returns true; each argument reads behind the call as it read before'; 0 by the template 'total and deterministic' (their statements: YtgpalgkfpkbcmaaTotals.lean).
  GIVEN WITH THE SEED: the statements are not yours to turn. If you find one false, say at which input.
  Laid BY PROGRAM, IN A SANDBOX (cutbox-rows.mjs): the forced cells as the released guide's own fill.sh prints them over the translation b06e754ca09f52b4… (all of the seat's roots in one cut). By AI agents, Wed Nov 11 2026. No macro, syntax, notation, axiom, sorry.
-/
import Derived.Test.YtgpalgkfpkbcmaaChecked
import GoSem.Claim
import GoSem.ClaimJoined
import GoSem.ClaimMapViews
import Derived.JoinedTies
import Derived.KernelRfl
namespace Go.Proofs.Ytgpalgkfpkbcmaa
/- THE CELL 'sum', in the pinned program and in every row, IS THE sha256 OF THE DUMP (.gsa) THAT YtgpalgkfpkbcmaaProg.lean LOADS. Nothing in Lean hashes anything: it is a label: what it is worth is what the hold of that sum in a sandbox is worth. -/
noncomputable def Try.pinned : Pinned := { name := "ytgpalgkfpkbcmaa", sum := "b06e754ca09f52b4822fc8bbd31c88f37dbaa9faf0bbc88d25c189e4cfbc41ae", checked := Try.checked }
namespace Rows
def none {H : Type} : Left H := { results := [], args := [] }

/-- 'laws.FnExactCallOk': WHATEVER THE INPUT: true; the input reads as it did. -/
def fnExactCallOkSpec : ChangeSpec := { name := "fnExactCallOk", fn := fun _ => fun
  | [d] => { results := [.lit (.bool true)], args := [d] }
  | _ => none }
def fnExactCallOkRow : OpenClaim := { program := "ytgpalgkfpkbcmaa", sum := "b06e754ca09f52b4822fc8bbd31c88f37dbaa9faf0bbc88d25c189e4cfbc41ae", func := "loop.example/g00712/laws.FnExactCallOk", spec := "fnExactCallOk", apart := false }
def FnExactCallOkSaid : Prop := fnExactCallOkRow.holds Try.pinned (OpenSpec.ofChange fnExactCallOkSpec)

/-- ITS FALSE NEIGHBOUR: 'it returns false'. Refute it at one input. -/
def fnExactCallOkWrong : ChangeSpec := { name := "fnExactCallOk", fn := fun _ => fun
  | [d] => { results := [.lit (.bool false)], args := [d] }
  | _ => none }
def FnExactCallOkWrongFalsely : Prop := fnExactCallOkRow.holds Try.pinned (OpenSpec.ofChange fnExactCallOkWrong)

/-- 'laws.FnExactAhead': WHATEVER THE INPUT: true; the input reads as it did. -/
def fnExactAheadSpec : ChangeSpec := { name := "fnExactAhead", fn := fun _ => fun
  | [d1, d2] => { results := [.lit (.bool true)], args := [d1, d2] }
  | _ => none }
def fnExactAheadRow : OpenClaim := { program := "ytgpalgkfpkbcmaa", sum := "b06e754ca09f52b4822fc8bbd31c88f37dbaa9faf0bbc88d25c189e4cfbc41ae", func := "loop.example/g00712/laws.FnExactAhead", spec := "fnExactAhead", apart := false }
def FnExactAheadSaid : Prop := fnExactAheadRow.holds Try.pinned (OpenSpec.ofChange fnExactAheadSpec)

/-- ITS FALSE NEIGHBOUR: 'it returns false'. Refute it at one input. -/
def fnExactAheadWrong : ChangeSpec := { name := "fnExactAhead", fn := fun _ => fun
  | [d1, d2] => { results := [.lit (.bool false)], args := [d1, d2] }
  | _ => none }
def FnExactAheadWrongFalsely : Prop := fnExactAheadRow.holds Try.pinned (OpenSpec.ofChange fnExactAheadWrong)

/-- 'laws.FnExactOpOk': WHATEVER THE INPUT: true; the input reads as it did. -/
def fnExactOpOkSpec : ChangeSpec := { name := "fnExactOpOk", fn := fun _ => fun
  | [d] => { results := [.lit (.bool true)], args := [d] }
  | _ => none }
def fnExactOpOkRow : OpenClaim := { program := "ytgpalgkfpkbcmaa", sum := "b06e754ca09f52b4822fc8bbd31c88f37dbaa9faf0bbc88d25c189e4cfbc41ae", func := "loop.example/g00712/laws.FnExactOpOk", spec := "fnExactOpOk", apart := false }
def FnExactOpOkSaid : Prop := fnExactOpOkRow.holds Try.pinned (OpenSpec.ofChange fnExactOpOkSpec)

/-- ITS FALSE NEIGHBOUR: 'it returns false'. Refute it at one input. -/
def fnExactOpOkWrong : ChangeSpec := { name := "fnExactOpOk", fn := fun _ => fun
  | [d] => { results := [.lit (.bool false)], args := [d] }
  | _ => none }
def FnExactOpOkWrongFalsely : Prop := fnExactOpOkRow.holds Try.pinned (OpenSpec.ofChange fnExactOpOkWrong)

/-- 'laws.FnExactSumBytes': WHATEVER THE INPUT: true; the input reads as it did. -/
def fnExactSumBytesSpec : ChangeSpec := { name := "fnExactSumBytes", fn := fun _ => fun
  | [d] => { results := [.lit (.bool true)], args := [d] }
  | _ => none }
def fnExactSumBytesRow : OpenClaim := { program := "ytgpalgkfpkbcmaa", sum := "b06e754ca09f52b4822fc8bbd31c88f37dbaa9faf0bbc88d25c189e4cfbc41ae", func := "loop.example/g00712/laws.FnExactSumBytes", spec := "fnExactSumBytes", apart := false }
def FnExactSumBytesSaid : Prop := fnExactSumBytesRow.holds Try.pinned (OpenSpec.ofChange fnExactSumBytesSpec)

/-- ITS FALSE NEIGHBOUR: 'it returns false'. Refute it at one input. -/
def fnExactSumBytesWrong : ChangeSpec := { name := "fnExactSumBytes", fn := fun _ => fun
  | [d] => { results := [.lit (.bool false)], args := [d] }
  | _ => none }
def FnExactSumBytesWrongFalsely : Prop := fnExactSumBytesRow.holds Try.pinned (OpenSpec.ofChange fnExactSumBytesWrong)

/-- 'laws.FnExactPackOp': WHATEVER THE INPUT: true; the input reads as it did. -/
def fnExactPackOpSpec : ChangeSpec := { name := "fnExactPackOp", fn := fun _ => fun
  | [d] => { results := [.lit (.bool true)], args := [d] }
  | _ => none }
def fnExactPackOpRow : OpenClaim := { program := "ytgpalgkfpkbcmaa", sum := "b06e754ca09f52b4822fc8bbd31c88f37dbaa9faf0bbc88d25c189e4cfbc41ae", func := "loop.example/g00712/laws.FnExactPackOp", spec := "fnExactPackOp", apart := false }
def FnExactPackOpSaid : Prop := fnExactPackOpRow.holds Try.pinned (OpenSpec.ofChange fnExactPackOpSpec)

/-- ITS FALSE NEIGHBOUR: 'it returns false'. Refute it at one input. -/
def fnExactPackOpWrong : ChangeSpec := { name := "fnExactPackOp", fn := fun _ => fun
  | [d] => { results := [.lit (.bool false)], args := [d] }
  | _ => none }
def FnExactPackOpWrongFalsely : Prop := fnExactPackOpRow.holds Try.pinned (OpenSpec.ofChange fnExactPackOpWrong)

/-- 'laws.FnExactUnpackOp': WHATEVER THE INPUT: true; the input reads as it did. -/
def fnExactUnpackOpSpec : ChangeSpec := { name := "fnExactUnpackOp", fn := fun _ => fun
  | [d1, d2] => { results := [.lit (.bool true)], args := [d1, d2] }
  | _ => none }
def fnExactUnpackOpRow : OpenClaim := { program := "ytgpalgkfpkbcmaa", sum := "b06e754ca09f52b4822fc8bbd31c88f37dbaa9faf0bbc88d25c189e4cfbc41ae", func := "loop.example/g00712/laws.FnExactUnpackOp", spec := "fnExactUnpackOp", apart := false }
def FnExactUnpackOpSaid : Prop := fnExactUnpackOpRow.holds Try.pinned (OpenSpec.ofChange fnExactUnpackOpSpec)

/-- ITS FALSE NEIGHBOUR: 'it returns false'. Refute it at one input. -/
def fnExactUnpackOpWrong : ChangeSpec := { name := "fnExactUnpackOp", fn := fun _ => fun
  | [d1, d2] => { results := [.lit (.bool false)], args := [d1, d2] }
  | _ => none }
def FnExactUnpackOpWrongFalsely : Prop := fnExactUnpackOpRow.holds Try.pinned (OpenSpec.ofChange fnExactUnpackOpWrong)

/- THE SECOND FORM. 'bulk': how many values and letters a reading holds, each counted each time it is reached (what is shared counts as often as it is met; a slice's spare places count too). A statement '..UptoSaid' is the law's where the arguments, and the package variables that the reading takes, are together of bulk at most 1048576: NARROWER than '..Said'. Prove '..Said' where nothing that the law and all that it calls make is longer than what came in: it says more and counts as full. Else prove '..UptoSaid'. A law counts once. -/
mutual
def uptoBulk {H : Type} : DataW H → Nat
  | .lit (.string bytes) => bytes.length + 1
  | .lit _ => 1
  | .nil => 1
  | .ptr d => uptoBulk d + 1
  | .slice elems spare => uptoBulkAll elems + uptoBulkAll spare + 1
  | .agg parts => uptoBulkAll parts + 1
  | .iface _ d => uptoBulk d + 1
  | .map entries => uptoBulkEntries entries + 1
  | .held _ => 1
def uptoBulkAll {H : Type} : List (DataW H) → Nat
  | [] => 0
  | d :: r => uptoBulk d + uptoBulkAll r
def uptoBulkEntries {H : Type} : List (Lit × DataW H) → Nat
  | [] => 0
  | x :: r => uptoBulkEntry x + uptoBulkEntries r
def uptoBulkEntry {H : Type} : Lit × DataW H → Nat
  | (.string bytes, d) => bytes.length + uptoBulk d + 1
  | (_, d) => uptoBulk d + 1
 end
def uptoSmall : (H : Type) → List (DataW H) → Bool := fun _ ds => decide (uptoBulkAll ds ≤ 1048576)
def OpenSpec.upto (s : _root_.Go.ChangeSpec) : _root_.Go.OpenSpec := { _root_.Go.OpenSpec.ofChange s with cond := some uptoSmall }

/-- 'laws.FnExactCallOk', WHERE WHAT IT READS IS OF BULK AT MOST 1048576: true; the input reads as it did. -/
def fnExactCallOkUptoRow : OpenClaim := { program := "ytgpalgkfpkbcmaa", sum := "b06e754ca09f52b4822fc8bbd31c88f37dbaa9faf0bbc88d25c189e4cfbc41ae", func := "loop.example/g00712/laws.FnExactCallOk", spec := "fnExactCallOk", apart := false, narrowed := true }
def FnExactCallOkUptoSaid : Prop := fnExactCallOkUptoRow.holds Try.pinned (OpenSpec.upto fnExactCallOkSpec)

/-- 'laws.FnExactAhead', WHERE WHAT IT READS IS OF BULK AT MOST 1048576: true; the input reads as it did. -/
def fnExactAheadUptoRow : OpenClaim := { program := "ytgpalgkfpkbcmaa", sum := "b06e754ca09f52b4822fc8bbd31c88f37dbaa9faf0bbc88d25c189e4cfbc41ae", func := "loop.example/g00712/laws.FnExactAhead", spec := "fnExactAhead", apart := false, narrowed := true }
def FnExactAheadUptoSaid : Prop := fnExactAheadUptoRow.holds Try.pinned (OpenSpec.upto fnExactAheadSpec)

/-- 'laws.FnExactOpOk', WHERE WHAT IT READS IS OF BULK AT MOST 1048576: true; the input reads as it did. -/
def fnExactOpOkUptoRow : OpenClaim := { program := "ytgpalgkfpkbcmaa", sum := "b06e754ca09f52b4822fc8bbd31c88f37dbaa9faf0bbc88d25c189e4cfbc41ae", func := "loop.example/g00712/laws.FnExactOpOk", spec := "fnExactOpOk", apart := false, narrowed := true }
def FnExactOpOkUptoSaid : Prop := fnExactOpOkUptoRow.holds Try.pinned (OpenSpec.upto fnExactOpOkSpec)

/-- 'laws.FnExactSumBytes', WHERE WHAT IT READS IS OF BULK AT MOST 1048576: true; the input reads as it did. -/
def fnExactSumBytesUptoRow : OpenClaim := { program := "ytgpalgkfpkbcmaa", sum := "b06e754ca09f52b4822fc8bbd31c88f37dbaa9faf0bbc88d25c189e4cfbc41ae", func := "loop.example/g00712/laws.FnExactSumBytes", spec := "fnExactSumBytes", apart := false, narrowed := true }
def FnExactSumBytesUptoSaid : Prop := fnExactSumBytesUptoRow.holds Try.pinned (OpenSpec.upto fnExactSumBytesSpec)

/-- 'laws.FnExactPackOp', WHERE WHAT IT READS IS OF BULK AT MOST 1048576: true; the input reads as it did. -/
def fnExactPackOpUptoRow : OpenClaim := { program := "ytgpalgkfpkbcmaa", sum := "b06e754ca09f52b4822fc8bbd31c88f37dbaa9faf0bbc88d25c189e4cfbc41ae", func := "loop.example/g00712/laws.FnExactPackOp", spec := "fnExactPackOp", apart := false, narrowed := true }
def FnExactPackOpUptoSaid : Prop := fnExactPackOpUptoRow.holds Try.pinned (OpenSpec.upto fnExactPackOpSpec)

/-- 'laws.FnExactUnpackOp', WHERE WHAT IT READS IS OF BULK AT MOST 1048576: true; the input reads as it did. -/
def fnExactUnpackOpUptoRow : OpenClaim := { program := "ytgpalgkfpkbcmaa", sum := "b06e754ca09f52b4822fc8bbd31c88f37dbaa9faf0bbc88d25c189e4cfbc41ae", func := "loop.example/g00712/laws.FnExactUnpackOp", spec := "fnExactUnpackOp", apart := false, narrowed := true }
def FnExactUnpackOpUptoSaid : Prop := fnExactUnpackOpUptoRow.holds Try.pinned (OpenSpec.upto fnExactUnpackOpSpec)

end Rows
end Go.Proofs.Ytgpalgkfpkbcmaa
