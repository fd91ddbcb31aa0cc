/-
  No cell of these rows narrows 'for every input' (looked for: loops, veiled, ifaces, maps, wideKeys, modest, calm, conditions, laid).
  DERIVED. THE GIVEN ROWS OF THIS SEAT. 7 by the template 'for every input the law returns true; each argument reads behind the call as it read before'; 0 by the template 'total and deterministic' (their statements: YtimlccgpeoaigaaTotals.lean).
  GIVEN WITH THE SEED: the statements are not yours to turn. If you find one false, say at which input.
  Laid BY PROGRAM, IN A SANDBOX (cutbox-rows.mjs): the forced cells as the released guide's own fill.sh prints them over the translation 924aebfb2c469bdf… (all of the seat's roots in one cut). By AI agents, Wed Nov 11 2026. No macro, syntax, notation, axiom, sorry.
-/
import Derived.Test.YtimlccgpeoaigaaChecked
import GoSem.Claim
import GoSem.ClaimJoined
import GoSem.ClaimMapViews
import Derived.JoinedTies
import Derived.KernelRfl
namespace Go.Proofs.Ytimlccgpeoaigaa
/- THE CELL 'sum', in the pinned program and in every row, IS THE sha256 OF THE DUMP (.gsa) THAT YtimlccgpeoaigaaProg.lean LOADS. Nothing in Lean hashes anything: it is a label: what it is worth is what the hold of that sum in a sandbox is worth. -/
noncomputable def Try.pinned : Pinned := { name := "ytimlccgpeoaigaa", sum := "924aebfb2c469bdf888082dc77c221b9ad5d49da15811f9b50ec81d639971752", checked := Try.checked }
namespace Rows
def none {H : Type} : Left H := { results := [], args := [] }

/-- 'laws.FnExactUnpackOp': WHATEVER THE INPUT: true; the input reads as it did. -/
def fnExactUnpackOpSpec : ChangeSpec := { name := "fnExactUnpackOp", fn := fun _ => fun
  | [d1, d2] => { results := [.lit (.bool true)], args := [d1, d2] }
  | _ => none }
def fnExactUnpackOpRow : OpenClaim := { program := "ytimlccgpeoaigaa", sum := "924aebfb2c469bdf888082dc77c221b9ad5d49da15811f9b50ec81d639971752", func := "loop.example/g00712/laws.FnExactUnpackOp", spec := "fnExactUnpackOp", apart := false }
def FnExactUnpackOpSaid : Prop := fnExactUnpackOpRow.holds Try.pinned (OpenSpec.ofChange fnExactUnpackOpSpec)

/-- ITS FALSE NEIGHBOUR: 'it returns false'. Refute it at one input. -/
def fnExactUnpackOpWrong : ChangeSpec := { name := "fnExactUnpackOp", fn := fun _ => fun
  | [d1, d2] => { results := [.lit (.bool false)], args := [d1, d2] }
  | _ => none }
def FnExactUnpackOpWrongFalsely : Prop := fnExactUnpackOpRow.holds Try.pinned (OpenSpec.ofChange fnExactUnpackOpWrong)

/-- 'laws.FnExactPackOps': WHATEVER THE INPUT: true; the input reads as it did. -/
def fnExactPackOpsSpec : ChangeSpec := { name := "fnExactPackOps", fn := fun _ => fun
  | [d] => { results := [.lit (.bool true)], args := [d] }
  | _ => none }
def fnExactPackOpsRow : OpenClaim := { program := "ytimlccgpeoaigaa", sum := "924aebfb2c469bdf888082dc77c221b9ad5d49da15811f9b50ec81d639971752", func := "loop.example/g00712/laws.FnExactPackOps", spec := "fnExactPackOps", unfollowed := true, recurses := true, apart := false }
def FnExactPackOpsSaid : Prop := fnExactPackOpsRow.holds Try.pinned (OpenSpec.ofChange fnExactPackOpsSpec)

/-- ITS FALSE NEIGHBOUR: 'it returns false'. Refute it at one input. -/
def fnExactPackOpsWrong : ChangeSpec := { name := "fnExactPackOps", fn := fun _ => fun
  | [d] => { results := [.lit (.bool false)], args := [d] }
  | _ => none }
def FnExactPackOpsWrongFalsely : Prop := fnExactPackOpsRow.holds Try.pinned (OpenSpec.ofChange fnExactPackOpsWrong)

/-- 'laws.FnExactLongest': WHATEVER THE INPUT: true; the input reads as it did. -/
def fnExactLongestSpec : ChangeSpec := { name := "fnExactLongest", fn := fun _ => fun
  | [d] => { results := [.lit (.bool true)], args := [d] }
  | _ => none }
def fnExactLongestRow : OpenClaim := { program := "ytimlccgpeoaigaa", sum := "924aebfb2c469bdf888082dc77c221b9ad5d49da15811f9b50ec81d639971752", func := "loop.example/g00712/laws.FnExactLongest", spec := "fnExactLongest", apart := false }
def FnExactLongestSaid : Prop := fnExactLongestRow.holds Try.pinned (OpenSpec.ofChange fnExactLongestSpec)

/-- ITS FALSE NEIGHBOUR: 'it returns false'. Refute it at one input. -/
def fnExactLongestWrong : ChangeSpec := { name := "fnExactLongest", fn := fun _ => fun
  | [d] => { results := [.lit (.bool false)], args := [d] }
  | _ => none }
def FnExactLongestWrongFalsely : Prop := fnExactLongestRow.holds Try.pinned (OpenSpec.ofChange fnExactLongestWrong)

/-- 'laws.FnExactScanOps': WHATEVER THE INPUT: true; the input reads as it did. -/
def fnExactScanOpsSpec : ChangeSpec := { name := "fnExactScanOps", fn := fun _ => fun
  | [d] => { results := [.lit (.bool true)], args := [d] }
  | _ => none }
def fnExactScanOpsRow : OpenClaim := { program := "ytimlccgpeoaigaa", sum := "924aebfb2c469bdf888082dc77c221b9ad5d49da15811f9b50ec81d639971752", func := "loop.example/g00712/laws.FnExactScanOps", spec := "fnExactScanOps", apart := false }
def FnExactScanOpsSaid : Prop := fnExactScanOpsRow.holds Try.pinned (OpenSpec.ofChange fnExactScanOpsSpec)

/-- ITS FALSE NEIGHBOUR: 'it returns false'. Refute it at one input. -/
def fnExactScanOpsWrong : ChangeSpec := { name := "fnExactScanOps", fn := fun _ => fun
  | [d] => { results := [.lit (.bool false)], args := [d] }
  | _ => none }
def FnExactScanOpsWrongFalsely : Prop := fnExactScanOpsRow.holds Try.pinned (OpenSpec.ofChange fnExactScanOpsWrong)

/-- 'laws.FnPacked': WHATEVER THE INPUT: true; the input reads as it did. -/
def fnPackedSpec : ChangeSpec := { name := "fnPacked", fn := fun _ => fun
  | [d] => { results := [.lit (.bool true)], args := [d] }
  | _ => none }
def fnPackedRow : OpenClaim := { program := "ytimlccgpeoaigaa", sum := "924aebfb2c469bdf888082dc77c221b9ad5d49da15811f9b50ec81d639971752", func := "loop.example/g00712/laws.FnPacked", spec := "fnPacked", unfollowed := true, recurses := true, apart := false }
def FnPackedSaid : Prop := fnPackedRow.holds Try.pinned (OpenSpec.ofChange fnPackedSpec)

/-- ITS FALSE NEIGHBOUR: 'it returns false'. Refute it at one input. -/
def fnPackedWrong : ChangeSpec := { name := "fnPacked", fn := fun _ => fun
  | [d] => { results := [.lit (.bool false)], args := [d] }
  | _ => none }
def FnPackedWrongFalsely : Prop := fnPackedRow.holds Try.pinned (OpenSpec.ofChange fnPackedWrong)

/-- 'laws.FnBent': WHATEVER THE INPUT: true; the input reads as it did. -/
def fnBentSpec : ChangeSpec := { name := "fnBent", fn := fun _ => fun
  | [d] => { results := [.lit (.bool true)], args := [d] }
  | _ => none }
def fnBentRow : OpenClaim := { program := "ytimlccgpeoaigaa", sum := "924aebfb2c469bdf888082dc77c221b9ad5d49da15811f9b50ec81d639971752", func := "loop.example/g00712/laws.FnBent", spec := "fnBent", apart := false }
def FnBentSaid : Prop := fnBentRow.holds Try.pinned (OpenSpec.ofChange fnBentSpec)

/-- ITS FALSE NEIGHBOUR: 'it returns false'. Refute it at one input. -/
def fnBentWrong : ChangeSpec := { name := "fnBent", fn := fun _ => fun
  | [d] => { results := [.lit (.bool false)], args := [d] }
  | _ => none }
def FnBentWrongFalsely : Prop := fnBentRow.holds Try.pinned (OpenSpec.ofChange fnBentWrong)

/-- 'laws.FnExactUnpackOps': WHATEVER THE INPUT: true; the input reads as it did. -/
def fnExactUnpackOpsSpec : ChangeSpec := { name := "fnExactUnpackOps", fn := fun _ => fun
  | [d] => { results := [.lit (.bool true)], args := [d] }
  | _ => none }
def fnExactUnpackOpsRow : OpenClaim := { program := "ytimlccgpeoaigaa", sum := "924aebfb2c469bdf888082dc77c221b9ad5d49da15811f9b50ec81d639971752", func := "loop.example/g00712/laws.FnExactUnpackOps", spec := "fnExactUnpackOps", apart := false }
def FnExactUnpackOpsSaid : Prop := fnExactUnpackOpsRow.holds Try.pinned (OpenSpec.ofChange fnExactUnpackOpsSpec)

/-- ITS FALSE NEIGHBOUR: 'it returns false'. Refute it at one input. -/
def fnExactUnpackOpsWrong : ChangeSpec := { name := "fnExactUnpackOps", fn := fun _ => fun
  | [d] => { results := [.lit (.bool false)], args := [d] }
  | _ => none }
def FnExactUnpackOpsWrongFalsely : Prop := fnExactUnpackOpsRow.holds Try.pinned (OpenSpec.ofChange fnExactUnpackOpsWrong)

/- THE SECOND FORM. 'bulk': how many values and letters a reading holds, each counted each time it is reached (what is shared counts as often as it is met; a slice's spare places count too). A statement '..UptoSaid' is the law's where the arguments, and the package variables that the reading takes, are together of bulk at most 1048576: NARROWER than '..Said'. Prove '..Said' where nothing that the law and all that it calls make is longer than what came in: it says more and counts as full. Else prove '..UptoSaid'. A law counts once. -/
mutual
def uptoBulk {H : Type} : DataW H → Nat
  | .lit (.string bytes) => bytes.length + 1
  | .lit _ => 1
  | .nil => 1
  | .ptr d => uptoBulk d + 1
  | .slice elems spare => uptoBulkAll elems + uptoBulkAll spare + 1
  | .agg parts => uptoBulkAll parts + 1
  | .iface _ d => uptoBulk d + 1
  | .map entries => uptoBulkEntries entries + 1
  | .held _ => 1
def uptoBulkAll {H : Type} : List (DataW H) → Nat
  | [] => 0
  | d :: r => uptoBulk d + uptoBulkAll r
def uptoBulkEntries {H : Type} : List (Lit × DataW H) → Nat
  | [] => 0
  | x :: r => uptoBulkEntry x + uptoBulkEntries r
def uptoBulkEntry {H : Type} : Lit × DataW H → Nat
  | (.string bytes, d) => bytes.length + uptoBulk d + 1
  | (_, d) => uptoBulk d + 1
 end
def uptoSmall : (H : Type) → List (DataW H) → Bool := fun _ ds => decide (uptoBulkAll ds ≤ 1048576)
def OpenSpec.upto (s : _root_.Go.ChangeSpec) : _root_.Go.OpenSpec := { _root_.Go.OpenSpec.ofChange s with cond := some uptoSmall }

/-- 'laws.FnExactUnpackOp', WHERE WHAT IT READS IS OF BULK AT MOST 1048576: true; the input reads as it did. -/
def fnExactUnpackOpUptoRow : OpenClaim := { program := "ytimlccgpeoaigaa", sum := "924aebfb2c469bdf888082dc77c221b9ad5d49da15811f9b50ec81d639971752", func := "loop.example/g00712/laws.FnExactUnpackOp", spec := "fnExactUnpackOp", apart := false, narrowed := true }
def FnExactUnpackOpUptoSaid : Prop := fnExactUnpackOpUptoRow.holds Try.pinned (OpenSpec.upto fnExactUnpackOpSpec)

/-- 'laws.FnExactPackOps', WHERE WHAT IT READS IS OF BULK AT MOST 1048576: true; the input reads as it did. -/
def fnExactPackOpsUptoRow : OpenClaim := { program := "ytimlccgpeoaigaa", sum := "924aebfb2c469bdf888082dc77c221b9ad5d49da15811f9b50ec81d639971752", func := "loop.example/g00712/laws.FnExactPackOps", spec := "fnExactPackOps", unfollowed := true, recurses := true, apart := false, narrowed := true }
def FnExactPackOpsUptoSaid : Prop := fnExactPackOpsUptoRow.holds Try.pinned (OpenSpec.upto fnExactPackOpsSpec)

/-- 'laws.FnExactLongest', WHERE WHAT IT READS IS OF BULK AT MOST 1048576: true; the input reads as it did. -/
def fnExactLongestUptoRow : OpenClaim := { program := "ytimlccgpeoaigaa", sum := "924aebfb2c469bdf888082dc77c221b9ad5d49da15811f9b50ec81d639971752", func := "loop.example/g00712/laws.FnExactLongest", spec := "fnExactLongest", apart := false, narrowed := true }
def FnExactLongestUptoSaid : Prop := fnExactLongestUptoRow.holds Try.pinned (OpenSpec.upto fnExactLongestSpec)

/-- 'laws.FnExactScanOps', WHERE WHAT IT READS IS OF BULK AT MOST 1048576: true; the input reads as it did. -/
def fnExactScanOpsUptoRow : OpenClaim := { program := "ytimlccgpeoaigaa", sum := "924aebfb2c469bdf888082dc77c221b9ad5d49da15811f9b50ec81d639971752", func := "loop.example/g00712/laws.FnExactScanOps", spec := "fnExactScanOps", apart := false, narrowed := true }
def FnExactScanOpsUptoSaid : Prop := fnExactScanOpsUptoRow.holds Try.pinned (OpenSpec.upto fnExactScanOpsSpec)

/-- 'laws.FnPacked', WHERE WHAT IT READS IS OF BULK AT MOST 1048576: true; the input reads as it did. -/
def fnPackedUptoRow : OpenClaim := { program := "ytimlccgpeoaigaa", sum := "924aebfb2c469bdf888082dc77c221b9ad5d49da15811f9b50ec81d639971752", func := "loop.example/g00712/laws.FnPacked", spec := "fnPacked", unfollowed := true, recurses := true, apart := false, narrowed := true }
def FnPackedUptoSaid : Prop := fnPackedUptoRow.holds Try.pinned (OpenSpec.upto fnPackedSpec)

/-- 'laws.FnBent', WHERE WHAT IT READS IS OF BULK AT MOST 1048576: true; the input reads as it did. -/
def fnBentUptoRow : OpenClaim := { program := "ytimlccgpeoaigaa", sum := "924aebfb2c469bdf888082dc77c221b9ad5d49da15811f9b50ec81d639971752", func := "loop.example/g00712/laws.FnBent", spec := "fnBent", apart := false, narrowed := true }
def FnBentUptoSaid : Prop := fnBentUptoRow.holds Try.pinned (OpenSpec.upto fnBentSpec)

/-- 'laws.FnExactUnpackOps', WHERE WHAT IT READS IS OF BULK AT MOST 1048576: true; the input reads as it did. -/
def fnExactUnpackOpsUptoRow : OpenClaim := { program := "ytimlccgpeoaigaa", sum := "924aebfb2c469bdf888082dc77c221b9ad5d49da15811f9b50ec81d639971752", func := "loop.example/g00712/laws.FnExactUnpackOps", spec := "fnExactUnpackOps", apart := false, narrowed := true }
def FnExactUnpackOpsUptoSaid : Prop := fnExactUnpackOpsUptoRow.holds Try.pinned (OpenSpec.upto fnExactUnpackOpsSpec)

end Rows
end Go.Proofs.Ytimlccgpeoaigaa
