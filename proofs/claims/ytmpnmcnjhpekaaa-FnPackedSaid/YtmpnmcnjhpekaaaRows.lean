/-
  No cell of these rows narrows 'for every input' (looked for: loops, veiled, ifaces, maps, wideKeys, modest, calm, conditions, laid).
  DERIVED. THE GIVEN ROWS OF THIS SEAT. 10 by the template 'for every input the law returns true; each argument reads behind the call as it read before'; 0 by the template 'total and deterministic' (their statements: YtmpnmcnjhpekaaaTotals.lean).
  GIVEN WITH THE SEED: the statements are not yours to turn. If you find one false, say at which input.
  Laid BY PROGRAM, IN A SANDBOX (cutbox-rows.mjs): the forced cells as the released guide's own fill.sh prints them over the translation 236604a88b664fc9… (all of the seat's roots in one cut). By AI agents, Wed Nov 11 2026. No macro, syntax, notation, axiom, sorry.
-/
import Derived.Test.YtmpnmcnjhpekaaaChecked
import GoSem.Claim
import GoSem.ClaimJoined
import GoSem.ClaimMapViews
import Derived.JoinedTies
import Derived.KernelRfl
namespace Go.Proofs.Ytmpnmcnjhpekaaa
/- THE CELL 'sum', in the pinned program and in every row, IS THE sha256 OF THE DUMP (.gsa) THAT YtmpnmcnjhpekaaaProg.lean LOADS. Nothing in Lean hashes anything: it is a label: what it is worth is what the hold of that sum in a sandbox is worth. -/
noncomputable def Try.pinned : Pinned := { name := "ytmpnmcnjhpekaaa", sum := "236604a88b664fc990700be29578b0c255b20e8c52799934c52aee7623fad7fa", checked := Try.checked }
namespace Rows
def none {H : Type} : Left H := { results := [], args := [] }

/-- 'laws.FnExactExplains': WHATEVER THE INPUT: true; the input reads as it did. -/
def fnExactExplainsSpec : ChangeSpec := { name := "fnExactExplains", fn := fun _ => fun
  | [d1, d2] => { results := [.lit (.bool true)], args := [d1, d2] }
  | _ => none }
def fnExactExplainsRow : OpenClaim := { program := "ytmpnmcnjhpekaaa", sum := "236604a88b664fc990700be29578b0c255b20e8c52799934c52aee7623fad7fa", func := "loop.example/g00712/laws.FnExactExplains", spec := "fnExactExplains", unfollowed := true, recurses := true, apart := false }
def FnExactExplainsSaid : Prop := fnExactExplainsRow.holds Try.pinned (OpenSpec.ofChange fnExactExplainsSpec)

/-- ITS FALSE NEIGHBOUR: 'it returns false'. Refute it at one input. -/
def fnExactExplainsWrong : ChangeSpec := { name := "fnExactExplains", fn := fun _ => fun
  | [d1, d2] => { results := [.lit (.bool false)], args := [d1, d2] }
  | _ => none }
def FnExactExplainsWrongFalsely : Prop := fnExactExplainsRow.holds Try.pinned (OpenSpec.ofChange fnExactExplainsWrong)

/-- 'laws.FnExactCountOrders': WHATEVER THE INPUT: true; the input reads as it did. -/
def fnExactCountOrdersSpec : ChangeSpec := { name := "fnExactCountOrders", fn := fun _ => fun
  | [d] => { results := [.lit (.bool true)], args := [d] }
  | _ => none }
def fnExactCountOrdersRow : OpenClaim := { program := "ytmpnmcnjhpekaaa", sum := "236604a88b664fc990700be29578b0c255b20e8c52799934c52aee7623fad7fa", func := "loop.example/g00712/laws.FnExactCountOrders", spec := "fnExactCountOrders", unfollowed := true, recurses := true, apart := false }
def FnExactCountOrdersSaid : Prop := fnExactCountOrdersRow.holds Try.pinned (OpenSpec.ofChange fnExactCountOrdersSpec)

/-- ITS FALSE NEIGHBOUR: 'it returns false'. Refute it at one input. -/
def fnExactCountOrdersWrong : ChangeSpec := { name := "fnExactCountOrders", fn := fun _ => fun
  | [d] => { results := [.lit (.bool false)], args := [d] }
  | _ => none }
def FnExactCountOrdersWrongFalsely : Prop := fnExactCountOrdersRow.holds Try.pinned (OpenSpec.ofChange fnExactCountOrdersWrong)

/-- 'laws.FnExactExplain': WHATEVER THE INPUT: true; the input reads as it did. -/
def fnExactExplainSpec : ChangeSpec := { name := "fnExactExplain", fn := fun _ => fun
  | [d] => { results := [.lit (.bool true)], args := [d] }
  | _ => none }
def fnExactExplainRow : OpenClaim := { program := "ytmpnmcnjhpekaaa", sum := "236604a88b664fc990700be29578b0c255b20e8c52799934c52aee7623fad7fa", func := "loop.example/g00712/laws.FnExactExplain", spec := "fnExactExplain", unfollowed := true, recurses := true, apart := false }
def FnExactExplainSaid : Prop := fnExactExplainRow.holds Try.pinned (OpenSpec.ofChange fnExactExplainSpec)

/-- ITS FALSE NEIGHBOUR: 'it returns false'. Refute it at one input. -/
def fnExactExplainWrong : ChangeSpec := { name := "fnExactExplain", fn := fun _ => fun
  | [d] => { results := [.lit (.bool false)], args := [d] }
  | _ => none }
def FnExactExplainWrongFalsely : Prop := fnExactExplainRow.holds Try.pinned (OpenSpec.ofChange fnExactExplainWrong)

/-- 'laws.FnPacked': WHATEVER THE INPUT: true; the input reads as it did. -/
def fnPackedSpec : ChangeSpec := { name := "fnPacked", fn := fun _ => fun
  | [d] => { results := [.lit (.bool true)], args := [d] }
  | _ => none }
def fnPackedRow : OpenClaim := { program := "ytmpnmcnjhpekaaa", sum := "236604a88b664fc990700be29578b0c255b20e8c52799934c52aee7623fad7fa", func := "loop.example/g00712/laws.FnPacked", spec := "fnPacked", unfollowed := true, recurses := true, apart := false }
def FnPackedSaid : Prop := fnPackedRow.holds Try.pinned (OpenSpec.ofChange fnPackedSpec)

/-- ITS FALSE NEIGHBOUR: 'it returns false'. Refute it at one input. -/
def fnPackedWrong : ChangeSpec := { name := "fnPacked", fn := fun _ => fun
  | [d] => { results := [.lit (.bool false)], args := [d] }
  | _ => none }
def FnPackedWrongFalsely : Prop := fnPackedRow.holds Try.pinned (OpenSpec.ofChange fnPackedWrong)

/-- 'laws.FnBent': WHATEVER THE INPUT: true; the input reads as it did. -/
def fnBentSpec : ChangeSpec := { name := "fnBent", fn := fun _ => fun
  | [d] => { results := [.lit (.bool true)], args := [d] }
  | _ => none }
def fnBentRow : OpenClaim := { program := "ytmpnmcnjhpekaaa", sum := "236604a88b664fc990700be29578b0c255b20e8c52799934c52aee7623fad7fa", func := "loop.example/g00712/laws.FnBent", spec := "fnBent", apart := false }
def FnBentSaid : Prop := fnBentRow.holds Try.pinned (OpenSpec.ofChange fnBentSpec)

/-- ITS FALSE NEIGHBOUR: 'it returns false'. Refute it at one input. -/
def fnBentWrong : ChangeSpec := { name := "fnBent", fn := fun _ => fun
  | [d] => { results := [.lit (.bool false)], args := [d] }
  | _ => none }
def FnBentWrongFalsely : Prop := fnBentRow.holds Try.pinned (OpenSpec.ofChange fnBentWrong)

/-- 'laws.FnExplained': WHATEVER THE INPUT: true; the input reads as it did. -/
def fnExplainedSpec : ChangeSpec := { name := "fnExplained", fn := fun _ => fun
  | [d] => { results := [.lit (.bool true)], args := [d] }
  | _ => none }
def fnExplainedRow : OpenClaim := { program := "ytmpnmcnjhpekaaa", sum := "236604a88b664fc990700be29578b0c255b20e8c52799934c52aee7623fad7fa", func := "loop.example/g00712/laws.FnExplained", spec := "fnExplained", unfollowed := true, recurses := true, apart := false }
def FnExplainedSaid : Prop := fnExplainedRow.holds Try.pinned (OpenSpec.ofChange fnExplainedSpec)

/-- ITS FALSE NEIGHBOUR: 'it returns false'. Refute it at one input. -/
def fnExplainedWrong : ChangeSpec := { name := "fnExplained", fn := fun _ => fun
  | [d] => { results := [.lit (.bool false)], args := [d] }
  | _ => none }
def FnExplainedWrongFalsely : Prop := fnExplainedRow.holds Try.pinned (OpenSpec.ofChange fnExplainedWrong)

/-- 'laws.FnExactPastOf': WHATEVER THE INPUT: true; the input reads as it did. -/
def fnExactPastOfSpec : ChangeSpec := { name := "fnExactPastOf", fn := fun _ => fun
  | [d] => { results := [.lit (.bool true)], args := [d] }
  | _ => none }
def fnExactPastOfRow : OpenClaim := { program := "ytmpnmcnjhpekaaa", sum := "236604a88b664fc990700be29578b0c255b20e8c52799934c52aee7623fad7fa", func := "loop.example/g00712/laws.FnExactPastOf", spec := "fnExactPastOf", apart := false }
def FnExactPastOfSaid : Prop := fnExactPastOfRow.holds Try.pinned (OpenSpec.ofChange fnExactPastOfSpec)

/-- ITS FALSE NEIGHBOUR: 'it returns false'. Refute it at one input. -/
def fnExactPastOfWrong : ChangeSpec := { name := "fnExactPastOf", fn := fun _ => fun
  | [d] => { results := [.lit (.bool false)], args := [d] }
  | _ => none }
def FnExactPastOfWrongFalsely : Prop := fnExactPastOfRow.holds Try.pinned (OpenSpec.ofChange fnExactPastOfWrong)

/-- 'laws.FnAlone': WHATEVER THE INPUT: true; the input reads as it did. -/
def fnAloneSpec : ChangeSpec := { name := "fnAlone", fn := fun _ => fun
  | [d] => { results := [.lit (.bool true)], args := [d] }
  | _ => none }
def fnAloneRow : OpenClaim := { program := "ytmpnmcnjhpekaaa", sum := "236604a88b664fc990700be29578b0c255b20e8c52799934c52aee7623fad7fa", func := "loop.example/g00712/laws.FnAlone", spec := "fnAlone", unfollowed := true, recurses := true, apart := false }
def FnAloneSaid : Prop := fnAloneRow.holds Try.pinned (OpenSpec.ofChange fnAloneSpec)

/-- ITS FALSE NEIGHBOUR: 'it returns false'. Refute it at one input. -/
def fnAloneWrong : ChangeSpec := { name := "fnAlone", fn := fun _ => fun
  | [d] => { results := [.lit (.bool false)], args := [d] }
  | _ => none }
def FnAloneWrongFalsely : Prop := fnAloneRow.holds Try.pinned (OpenSpec.ofChange fnAloneWrong)

/-- 'laws.FnPast': WHATEVER THE INPUT: true; the input reads as it did. -/
def fnPastSpec : ChangeSpec := { name := "fnPast", fn := fun _ => fun
  | [d] => { results := [.lit (.bool true)], args := [d] }
  | _ => none }
def fnPastRow : OpenClaim := { program := "ytmpnmcnjhpekaaa", sum := "236604a88b664fc990700be29578b0c255b20e8c52799934c52aee7623fad7fa", func := "loop.example/g00712/laws.FnPast", spec := "fnPast", unfollowed := true, recurses := true, apart := false }
def FnPastSaid : Prop := fnPastRow.holds Try.pinned (OpenSpec.ofChange fnPastSpec)

/-- ITS FALSE NEIGHBOUR: 'it returns false'. Refute it at one input. -/
def fnPastWrong : ChangeSpec := { name := "fnPast", fn := fun _ => fun
  | [d] => { results := [.lit (.bool false)], args := [d] }
  | _ => none }
def FnPastWrongFalsely : Prop := fnPastRow.holds Try.pinned (OpenSpec.ofChange fnPastWrong)

/-- 'laws.FnMoves': WHATEVER THE INPUT: true; the input reads as it did. -/
def fnMovesSpec : ChangeSpec := { name := "fnMoves", fn := fun _ => fun
  | [d] => { results := [.lit (.bool true)], args := [d] }
  | _ => none }
def fnMovesRow : OpenClaim := { program := "ytmpnmcnjhpekaaa", sum := "236604a88b664fc990700be29578b0c255b20e8c52799934c52aee7623fad7fa", func := "loop.example/g00712/laws.FnMoves", spec := "fnMoves", unfollowed := true, recurses := true, apart := false }
def FnMovesSaid : Prop := fnMovesRow.holds Try.pinned (OpenSpec.ofChange fnMovesSpec)

/-- ITS FALSE NEIGHBOUR: 'it returns false'. Refute it at one input. -/
def fnMovesWrong : ChangeSpec := { name := "fnMoves", fn := fun _ => fun
  | [d] => { results := [.lit (.bool false)], args := [d] }
  | _ => none }
def FnMovesWrongFalsely : Prop := fnMovesRow.holds Try.pinned (OpenSpec.ofChange fnMovesWrong)

/- THE SECOND FORM. 'bulk': how many values and letters a reading holds, each counted each time it is reached (what is shared counts as often as it is met; a slice's spare places count too). A statement '..UptoSaid' is the law's where the arguments, and the package variables that the reading takes, are together of bulk at most 1048576: NARROWER than '..Said'. Prove '..Said' where nothing that the law and all that it calls make is longer than what came in: it says more and counts as full. Else prove '..UptoSaid'. A law counts once. -/
mutual
def uptoBulk {H : Type} : DataW H → Nat
  | .lit (.string bytes) => bytes.length + 1
  | .lit _ => 1
  | .nil => 1
  | .ptr d => uptoBulk d + 1
  | .slice elems spare => uptoBulkAll elems + uptoBulkAll spare + 1
  | .agg parts => uptoBulkAll parts + 1
  | .iface _ d => uptoBulk d + 1
  | .map entries => uptoBulkEntries entries + 1
  | .held _ => 1
def uptoBulkAll {H : Type} : List (DataW H) → Nat
  | [] => 0
  | d :: r => uptoBulk d + uptoBulkAll r
def uptoBulkEntries {H : Type} : List (Lit × DataW H) → Nat
  | [] => 0
  | x :: r => uptoBulkEntry x + uptoBulkEntries r
def uptoBulkEntry {H : Type} : Lit × DataW H → Nat
  | (.string bytes, d) => bytes.length + uptoBulk d + 1
  | (_, d) => uptoBulk d + 1
 end
def uptoSmall : (H : Type) → List (DataW H) → Bool := fun _ ds => decide (uptoBulkAll ds ≤ 1048576)
def OpenSpec.upto (s : _root_.Go.ChangeSpec) : _root_.Go.OpenSpec := { _root_.Go.OpenSpec.ofChange s with cond := some uptoSmall }

/-- 'laws.FnExactExplains', WHERE WHAT IT READS IS OF BULK AT MOST 1048576: true; the input reads as it did. -/
def fnExactExplainsUptoRow : OpenClaim := { program := "ytmpnmcnjhpekaaa", sum := "236604a88b664fc990700be29578b0c255b20e8c52799934c52aee7623fad7fa", func := "loop.example/g00712/laws.FnExactExplains", spec := "fnExactExplains", unfollowed := true, recurses := true, apart := false, narrowed := true }
def FnExactExplainsUptoSaid : Prop := fnExactExplainsUptoRow.holds Try.pinned (OpenSpec.upto fnExactExplainsSpec)

/-- 'laws.FnExactCountOrders', WHERE WHAT IT READS IS OF BULK AT MOST 1048576: true; the input reads as it did. -/
def fnExactCountOrdersUptoRow : OpenClaim := { program := "ytmpnmcnjhpekaaa", sum := "236604a88b664fc990700be29578b0c255b20e8c52799934c52aee7623fad7fa", func := "loop.example/g00712/laws.FnExactCountOrders", spec := "fnExactCountOrders", unfollowed := true, recurses := true, apart := false, narrowed := true }
def FnExactCountOrdersUptoSaid : Prop := fnExactCountOrdersUptoRow.holds Try.pinned (OpenSpec.upto fnExactCountOrdersSpec)

/-- 'laws.FnExactExplain', WHERE WHAT IT READS IS OF BULK AT MOST 1048576: true; the input reads as it did. -/
def fnExactExplainUptoRow : OpenClaim := { program := "ytmpnmcnjhpekaaa", sum := "236604a88b664fc990700be29578b0c255b20e8c52799934c52aee7623fad7fa", func := "loop.example/g00712/laws.FnExactExplain", spec := "fnExactExplain", unfollowed := true, recurses := true, apart := false, narrowed := true }
def FnExactExplainUptoSaid : Prop := fnExactExplainUptoRow.holds Try.pinned (OpenSpec.upto fnExactExplainSpec)

/-- 'laws.FnPacked', WHERE WHAT IT READS IS OF BULK AT MOST 1048576: true; the input reads as it did. -/
def fnPackedUptoRow : OpenClaim := { program := "ytmpnmcnjhpekaaa", sum := "236604a88b664fc990700be29578b0c255b20e8c52799934c52aee7623fad7fa", func := "loop.example/g00712/laws.FnPacked", spec := "fnPacked", unfollowed := true, recurses := true, apart := false, narrowed := true }
def FnPackedUptoSaid : Prop := fnPackedUptoRow.holds Try.pinned (OpenSpec.upto fnPackedSpec)

/-- 'laws.FnBent', WHERE WHAT IT READS IS OF BULK AT MOST 1048576: true; the input reads as it did. -/
def fnBentUptoRow : OpenClaim := { program := "ytmpnmcnjhpekaaa", sum := "236604a88b664fc990700be29578b0c255b20e8c52799934c52aee7623fad7fa", func := "loop.example/g00712/laws.FnBent", spec := "fnBent", apart := false, narrowed := true }
def FnBentUptoSaid : Prop := fnBentUptoRow.holds Try.pinned (OpenSpec.upto fnBentSpec)

/-- 'laws.FnExplained', WHERE WHAT IT READS IS OF BULK AT MOST 1048576: true; the input reads as it did. -/
def fnExplainedUptoRow : OpenClaim := { program := "ytmpnmcnjhpekaaa", sum := "236604a88b664fc990700be29578b0c255b20e8c52799934c52aee7623fad7fa", func := "loop.example/g00712/laws.FnExplained", spec := "fnExplained", unfollowed := true, recurses := true, apart := false, narrowed := true }
def FnExplainedUptoSaid : Prop := fnExplainedUptoRow.holds Try.pinned (OpenSpec.upto fnExplainedSpec)

/-- 'laws.FnExactPastOf', WHERE WHAT IT READS IS OF BULK AT MOST 1048576: true; the input reads as it did. -/
def fnExactPastOfUptoRow : OpenClaim := { program := "ytmpnmcnjhpekaaa", sum := "236604a88b664fc990700be29578b0c255b20e8c52799934c52aee7623fad7fa", func := "loop.example/g00712/laws.FnExactPastOf", spec := "fnExactPastOf", apart := false, narrowed := true }
def FnExactPastOfUptoSaid : Prop := fnExactPastOfUptoRow.holds Try.pinned (OpenSpec.upto fnExactPastOfSpec)

/-- 'laws.FnAlone', WHERE WHAT IT READS IS OF BULK AT MOST 1048576: true; the input reads as it did. -/
def fnAloneUptoRow : OpenClaim := { program := "ytmpnmcnjhpekaaa", sum := "236604a88b664fc990700be29578b0c255b20e8c52799934c52aee7623fad7fa", func := "loop.example/g00712/laws.FnAlone", spec := "fnAlone", unfollowed := true, recurses := true, apart := false, narrowed := true }
def FnAloneUptoSaid : Prop := fnAloneUptoRow.holds Try.pinned (OpenSpec.upto fnAloneSpec)

/-- 'laws.FnPast', WHERE WHAT IT READS IS OF BULK AT MOST 1048576: true; the input reads as it did. -/
def fnPastUptoRow : OpenClaim := { program := "ytmpnmcnjhpekaaa", sum := "236604a88b664fc990700be29578b0c255b20e8c52799934c52aee7623fad7fa", func := "loop.example/g00712/laws.FnPast", spec := "fnPast", unfollowed := true, recurses := true, apart := false, narrowed := true }
def FnPastUptoSaid : Prop := fnPastUptoRow.holds Try.pinned (OpenSpec.upto fnPastSpec)

/-- 'laws.FnMoves', WHERE WHAT IT READS IS OF BULK AT MOST 1048576: true; the input reads as it did. -/
def fnMovesUptoRow : OpenClaim := { program := "ytmpnmcnjhpekaaa", sum := "236604a88b664fc990700be29578b0c255b20e8c52799934c52aee7623fad7fa", func := "loop.example/g00712/laws.FnMoves", spec := "fnMoves", unfollowed := true, recurses := true, apart := false, narrowed := true }
def FnMovesUptoSaid : Prop := fnMovesUptoRow.holds Try.pinned (OpenSpec.upto fnMovesSpec)

end Rows
end Go.Proofs.Ytmpnmcnjhpekaaa
