/-
  No cell of these rows narrows 'for every input' (looked for: loops, veiled, ifaces, maps, wideKeys, modest, calm, conditions, laid).
  DERIVED. THE GIVEN ROWS OF THIS SEAT. 8 by the template 'for every input the law returns true; each argument reads behind the call as it read before'; 0 by the template 'total and deterministic' (their statements: YtbapnhdmhbkbpaaTotals.lean).
  GIVEN WITH THE SEED: the statements are not yours to turn. If you find one false, say at which input.
  Laid BY PROGRAM, IN A SANDBOX (cutbox-rows.mjs): the forced cells as the released guide's own fill.sh prints them over the translation 218fa2a2683dff9a… (all of the seat's roots in one cut). By AI agents, Wed Nov 11 2026. No macro, syntax, notation, axiom, sorry.
-/
import Derived.Test.YtbapnhdmhbkbpaaChecked
import GoSem.Claim
import GoSem.ClaimJoined
import GoSem.ClaimMapViews
import Derived.JoinedTies
import Derived.KernelRfl
namespace Go.Proofs.Ytbapnhdmhbkbpaa
/- THE CELL 'sum', in the pinned program and in every row, IS THE sha256 OF THE DUMP (.gsa) THAT YtbapnhdmhbkbpaaProg.lean LOADS. Nothing in Lean hashes anything: it is a label: what it is worth is what the hold of that sum in a sandbox is worth. -/
noncomputable def Try.pinned : Pinned := { name := "ytbapnhdmhbkbpaa", sum := "218fa2a2683dff9a04e292d5d7a19041cf110447e7479a9005ce811fd66f230f", checked := Try.checked }
namespace Rows
def none {H : Type} : Left H := { results := [], args := [] }

/-- 'laws.FnExactInRow': WHATEVER THE INPUT: true; the input reads as it did. -/
def fnExactInRowSpec : ChangeSpec := { name := "fnExactInRow", fn := fun _ => fun
  | [d] => { results := [.lit (.bool true)], args := [d] }
  | _ => none }
def fnExactInRowRow : OpenClaim := { program := "ytbapnhdmhbkbpaa", sum := "218fa2a2683dff9a04e292d5d7a19041cf110447e7479a9005ce811fd66f230f", func := "loop.example/g00712/laws.FnExactInRow", spec := "fnExactInRow", unfollowed := true, recurses := true, apart := false }
def FnExactInRowSaid : Prop := fnExactInRowRow.holds Try.pinned (OpenSpec.ofChange fnExactInRowSpec)

/-- ITS FALSE NEIGHBOUR: 'it returns false'. Refute it at one input. -/
def fnExactInRowWrong : ChangeSpec := { name := "fnExactInRow", fn := fun _ => fun
  | [d] => { results := [.lit (.bool false)], args := [d] }
  | _ => none }
def FnExactInRowWrongFalsely : Prop := fnExactInRowRow.holds Try.pinned (OpenSpec.ofChange fnExactInRowWrong)

/-- 'laws.FnExactWiden': WHATEVER THE INPUT: true; the input reads as it did. -/
def fnExactWidenSpec : ChangeSpec := { name := "fnExactWiden", fn := fun _ => fun
  | [d1, d2] => { results := [.lit (.bool true)], args := [d1, d2] }
  | _ => none }
def fnExactWidenRow : OpenClaim := { program := "ytbapnhdmhbkbpaa", sum := "218fa2a2683dff9a04e292d5d7a19041cf110447e7479a9005ce811fd66f230f", func := "loop.example/g00712/laws.FnExactWiden", spec := "fnExactWiden", unfollowed := true, recurses := true, apart := false }
def FnExactWidenSaid : Prop := fnExactWidenRow.holds Try.pinned (OpenSpec.ofChange fnExactWidenSpec)

/-- ITS FALSE NEIGHBOUR: 'it returns false'. Refute it at one input. -/
def fnExactWidenWrong : ChangeSpec := { name := "fnExactWiden", fn := fun _ => fun
  | [d1, d2] => { results := [.lit (.bool false)], args := [d1, d2] }
  | _ => none }
def FnExactWidenWrongFalsely : Prop := fnExactWidenRow.holds Try.pinned (OpenSpec.ofChange fnExactWidenWrong)

/-- 'laws.FnExactExplains': WHATEVER THE INPUT: true; the input reads as it did. -/
def fnExactExplainsSpec : ChangeSpec := { name := "fnExactExplains", fn := fun _ => fun
  | [d1, d2] => { results := [.lit (.bool true)], args := [d1, d2] }
  | _ => none }
def fnExactExplainsRow : OpenClaim := { program := "ytbapnhdmhbkbpaa", sum := "218fa2a2683dff9a04e292d5d7a19041cf110447e7479a9005ce811fd66f230f", func := "loop.example/g00712/laws.FnExactExplains", spec := "fnExactExplains", unfollowed := true, recurses := true, apart := false }
def FnExactExplainsSaid : Prop := fnExactExplainsRow.holds Try.pinned (OpenSpec.ofChange fnExactExplainsSpec)

/-- ITS FALSE NEIGHBOUR: 'it returns false'. Refute it at one input. -/
def fnExactExplainsWrong : ChangeSpec := { name := "fnExactExplains", fn := fun _ => fun
  | [d1, d2] => { results := [.lit (.bool false)], args := [d1, d2] }
  | _ => none }
def FnExactExplainsWrongFalsely : Prop := fnExactExplainsRow.holds Try.pinned (OpenSpec.ofChange fnExactExplainsWrong)

/-- 'laws.FnExactCountOrders': WHATEVER THE INPUT: true; the input reads as it did. -/
def fnExactCountOrdersSpec : ChangeSpec := { name := "fnExactCountOrders", fn := fun _ => fun
  | [d] => { results := [.lit (.bool true)], args := [d] }
  | _ => none }
def fnExactCountOrdersRow : OpenClaim := { program := "ytbapnhdmhbkbpaa", sum := "218fa2a2683dff9a04e292d5d7a19041cf110447e7479a9005ce811fd66f230f", func := "loop.example/g00712/laws.FnExactCountOrders", spec := "fnExactCountOrders", unfollowed := true, recurses := true, apart := false }
def FnExactCountOrdersSaid : Prop := fnExactCountOrdersRow.holds Try.pinned (OpenSpec.ofChange fnExactCountOrdersSpec)

/-- ITS FALSE NEIGHBOUR: 'it returns false'. Refute it at one input. -/
def fnExactCountOrdersWrong : ChangeSpec := { name := "fnExactCountOrders", fn := fun _ => fun
  | [d] => { results := [.lit (.bool false)], args := [d] }
  | _ => none }
def FnExactCountOrdersWrongFalsely : Prop := fnExactCountOrdersRow.holds Try.pinned (OpenSpec.ofChange fnExactCountOrdersWrong)

/-- 'laws.FnExactExplain': WHATEVER THE INPUT: true; the input reads as it did. -/
def fnExactExplainSpec : ChangeSpec := { name := "fnExactExplain", fn := fun _ => fun
  | [d] => { results := [.lit (.bool true)], args := [d] }
  | _ => none }
def fnExactExplainRow : OpenClaim := { program := "ytbapnhdmhbkbpaa", sum := "218fa2a2683dff9a04e292d5d7a19041cf110447e7479a9005ce811fd66f230f", func := "loop.example/g00712/laws.FnExactExplain", spec := "fnExactExplain", unfollowed := true, recurses := true, apart := false }
def FnExactExplainSaid : Prop := fnExactExplainRow.holds Try.pinned (OpenSpec.ofChange fnExactExplainSpec)

/-- ITS FALSE NEIGHBOUR: 'it returns false'. Refute it at one input. -/
def fnExactExplainWrong : ChangeSpec := { name := "fnExactExplain", fn := fun _ => fun
  | [d] => { results := [.lit (.bool false)], args := [d] }
  | _ => none }
def FnExactExplainWrongFalsely : Prop := fnExactExplainRow.holds Try.pinned (OpenSpec.ofChange fnExactExplainWrong)

/-- 'laws.FnExplained': WHATEVER THE INPUT: true; the input reads as it did. -/
def fnExplainedSpec : ChangeSpec := { name := "fnExplained", fn := fun _ => fun
  | [d] => { results := [.lit (.bool true)], args := [d] }
  | _ => none }
def fnExplainedRow : OpenClaim := { program := "ytbapnhdmhbkbpaa", sum := "218fa2a2683dff9a04e292d5d7a19041cf110447e7479a9005ce811fd66f230f", func := "loop.example/g00712/laws.FnExplained", spec := "fnExplained", unfollowed := true, recurses := true, apart := false }
def FnExplainedSaid : Prop := fnExplainedRow.holds Try.pinned (OpenSpec.ofChange fnExplainedSpec)

/-- ITS FALSE NEIGHBOUR: 'it returns false'. Refute it at one input. -/
def fnExplainedWrong : ChangeSpec := { name := "fnExplained", fn := fun _ => fun
  | [d] => { results := [.lit (.bool false)], args := [d] }
  | _ => none }
def FnExplainedWrongFalsely : Prop := fnExplainedRow.holds Try.pinned (OpenSpec.ofChange fnExplainedWrong)

/-- 'laws.FnExactPastOf': WHATEVER THE INPUT: true; the input reads as it did. -/
def fnExactPastOfSpec : ChangeSpec := { name := "fnExactPastOf", fn := fun _ => fun
  | [d] => { results := [.lit (.bool true)], args := [d] }
  | _ => none }
def fnExactPastOfRow : OpenClaim := { program := "ytbapnhdmhbkbpaa", sum := "218fa2a2683dff9a04e292d5d7a19041cf110447e7479a9005ce811fd66f230f", func := "loop.example/g00712/laws.FnExactPastOf", spec := "fnExactPastOf", apart := false }
def FnExactPastOfSaid : Prop := fnExactPastOfRow.holds Try.pinned (OpenSpec.ofChange fnExactPastOfSpec)

/-- ITS FALSE NEIGHBOUR: 'it returns false'. Refute it at one input. -/
def fnExactPastOfWrong : ChangeSpec := { name := "fnExactPastOf", fn := fun _ => fun
  | [d] => { results := [.lit (.bool false)], args := [d] }
  | _ => none }
def FnExactPastOfWrongFalsely : Prop := fnExactPastOfRow.holds Try.pinned (OpenSpec.ofChange fnExactPastOfWrong)

/-- 'laws.FnPast': WHATEVER THE INPUT: true; the input reads as it did. -/
def fnPastSpec : ChangeSpec := { name := "fnPast", fn := fun _ => fun
  | [d] => { results := [.lit (.bool true)], args := [d] }
  | _ => none }
def fnPastRow : OpenClaim := { program := "ytbapnhdmhbkbpaa", sum := "218fa2a2683dff9a04e292d5d7a19041cf110447e7479a9005ce811fd66f230f", func := "loop.example/g00712/laws.FnPast", spec := "fnPast", unfollowed := true, recurses := true, apart := false }
def FnPastSaid : Prop := fnPastRow.holds Try.pinned (OpenSpec.ofChange fnPastSpec)

/-- ITS FALSE NEIGHBOUR: 'it returns false'. Refute it at one input. -/
def fnPastWrong : ChangeSpec := { name := "fnPast", fn := fun _ => fun
  | [d] => { results := [.lit (.bool false)], args := [d] }
  | _ => none }
def FnPastWrongFalsely : Prop := fnPastRow.holds Try.pinned (OpenSpec.ofChange fnPastWrong)

/- THE SECOND FORM. 'bulk': how many values and letters a reading holds, each counted each time it is reached (what is shared counts as often as it is met; a slice's spare places count too). A statement '..UptoSaid' is the law's where the arguments, and the package variables that the reading takes, are together of bulk at most 1048576: NARROWER than '..Said'. Prove '..Said' where nothing that the law and all that it calls make is longer than what came in: it says more and counts as full. Else prove '..UptoSaid'. A law counts once. -/
mutual
def uptoBulk {H : Type} : DataW H → Nat
  | .lit (.string bytes) => bytes.length + 1
  | .lit _ => 1
  | .nil => 1
  | .ptr d => uptoBulk d + 1
  | .slice elems spare => uptoBulkAll elems + uptoBulkAll spare + 1
  | .agg parts => uptoBulkAll parts + 1
  | .iface _ d => uptoBulk d + 1
  | .map entries => uptoBulkEntries entries + 1
  | .held _ => 1
def uptoBulkAll {H : Type} : List (DataW H) → Nat
  | [] => 0
  | d :: r => uptoBulk d + uptoBulkAll r
def uptoBulkEntries {H : Type} : List (Lit × DataW H) → Nat
  | [] => 0
  | x :: r => uptoBulkEntry x + uptoBulkEntries r
def uptoBulkEntry {H : Type} : Lit × DataW H → Nat
  | (.string bytes, d) => bytes.length + uptoBulk d + 1
  | (_, d) => uptoBulk d + 1
 end
def uptoSmall : (H : Type) → List (DataW H) → Bool := fun _ ds => decide (uptoBulkAll ds ≤ 1048576)
def OpenSpec.upto (s : _root_.Go.ChangeSpec) : _root_.Go.OpenSpec := { _root_.Go.OpenSpec.ofChange s with cond := some uptoSmall }

/-- 'laws.FnExactInRow', WHERE WHAT IT READS IS OF BULK AT MOST 1048576: true; the input reads as it did. -/
def fnExactInRowUptoRow : OpenClaim := { program := "ytbapnhdmhbkbpaa", sum := "218fa2a2683dff9a04e292d5d7a19041cf110447e7479a9005ce811fd66f230f", func := "loop.example/g00712/laws.FnExactInRow", spec := "fnExactInRow", unfollowed := true, recurses := true, apart := false, narrowed := true }
def FnExactInRowUptoSaid : Prop := fnExactInRowUptoRow.holds Try.pinned (OpenSpec.upto fnExactInRowSpec)

/-- 'laws.FnExactWiden', WHERE WHAT IT READS IS OF BULK AT MOST 1048576: true; the input reads as it did. -/
def fnExactWidenUptoRow : OpenClaim := { program := "ytbapnhdmhbkbpaa", sum := "218fa2a2683dff9a04e292d5d7a19041cf110447e7479a9005ce811fd66f230f", func := "loop.example/g00712/laws.FnExactWiden", spec := "fnExactWiden", unfollowed := true, recurses := true, apart := false, narrowed := true }
def FnExactWidenUptoSaid : Prop := fnExactWidenUptoRow.holds Try.pinned (OpenSpec.upto fnExactWidenSpec)

/-- 'laws.FnExactExplains', WHERE WHAT IT READS IS OF BULK AT MOST 1048576: true; the input reads as it did. -/
def fnExactExplainsUptoRow : OpenClaim := { program := "ytbapnhdmhbkbpaa", sum := "218fa2a2683dff9a04e292d5d7a19041cf110447e7479a9005ce811fd66f230f", func := "loop.example/g00712/laws.FnExactExplains", spec := "fnExactExplains", unfollowed := true, recurses := true, apart := false, narrowed := true }
def FnExactExplainsUptoSaid : Prop := fnExactExplainsUptoRow.holds Try.pinned (OpenSpec.upto fnExactExplainsSpec)

/-- 'laws.FnExactCountOrders', WHERE WHAT IT READS IS OF BULK AT MOST 1048576: true; the input reads as it did. -/
def fnExactCountOrdersUptoRow : OpenClaim := { program := "ytbapnhdmhbkbpaa", sum := "218fa2a2683dff9a04e292d5d7a19041cf110447e7479a9005ce811fd66f230f", func := "loop.example/g00712/laws.FnExactCountOrders", spec := "fnExactCountOrders", unfollowed := true, recurses := true, apart := false, narrowed := true }
def FnExactCountOrdersUptoSaid : Prop := fnExactCountOrdersUptoRow.holds Try.pinned (OpenSpec.upto fnExactCountOrdersSpec)

/-- 'laws.FnExactExplain', WHERE WHAT IT READS IS OF BULK AT MOST 1048576: true; the input reads as it did. -/
def fnExactExplainUptoRow : OpenClaim := { program := "ytbapnhdmhbkbpaa", sum := "218fa2a2683dff9a04e292d5d7a19041cf110447e7479a9005ce811fd66f230f", func := "loop.example/g00712/laws.FnExactExplain", spec := "fnExactExplain", unfollowed := true, recurses := true, apart := false, narrowed := true }
def FnExactExplainUptoSaid : Prop := fnExactExplainUptoRow.holds Try.pinned (OpenSpec.upto fnExactExplainSpec)

/-- 'laws.FnExplained', WHERE WHAT IT READS IS OF BULK AT MOST 1048576: true; the input reads as it did. -/
def fnExplainedUptoRow : OpenClaim := { program := "ytbapnhdmhbkbpaa", sum := "218fa2a2683dff9a04e292d5d7a19041cf110447e7479a9005ce811fd66f230f", func := "loop.example/g00712/laws.FnExplained", spec := "fnExplained", unfollowed := true, recurses := true, apart := false, narrowed := true }
def FnExplainedUptoSaid : Prop := fnExplainedUptoRow.holds Try.pinned (OpenSpec.upto fnExplainedSpec)

/-- 'laws.FnExactPastOf', WHERE WHAT IT READS IS OF BULK AT MOST 1048576: true; the input reads as it did. -/
def fnExactPastOfUptoRow : OpenClaim := { program := "ytbapnhdmhbkbpaa", sum := "218fa2a2683dff9a04e292d5d7a19041cf110447e7479a9005ce811fd66f230f", func := "loop.example/g00712/laws.FnExactPastOf", spec := "fnExactPastOf", apart := false, narrowed := true }
def FnExactPastOfUptoSaid : Prop := fnExactPastOfUptoRow.holds Try.pinned (OpenSpec.upto fnExactPastOfSpec)

/-- 'laws.FnPast', WHERE WHAT IT READS IS OF BULK AT MOST 1048576: true; the input reads as it did. -/
def fnPastUptoRow : OpenClaim := { program := "ytbapnhdmhbkbpaa", sum := "218fa2a2683dff9a04e292d5d7a19041cf110447e7479a9005ce811fd66f230f", func := "loop.example/g00712/laws.FnPast", spec := "fnPast", unfollowed := true, recurses := true, apart := false, narrowed := true }
def FnPastUptoSaid : Prop := fnPastUptoRow.holds Try.pinned (OpenSpec.upto fnPastSpec)

end Rows
end Go.Proofs.Ytbapnhdmhbkbpaa
