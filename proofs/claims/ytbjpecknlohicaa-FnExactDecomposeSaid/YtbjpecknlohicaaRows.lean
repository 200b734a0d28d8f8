/-
  No cell of these rows narrows 'for every input' (looked for: loops, veiled, ifaces, maps, wideKeys, modest, calm, conditions, laid).
  DERIVED. THE GIVEN ROWS OF THIS SEAT. 10 by the template 'for every input the law returns true; each argument reads behind the call as it read before'; 0 by the template 'total and deterministic' (their statements: YtbjpecknlohicaaTotals.lean).
  GIVEN WITH THE SEED: the statements are not yours to turn. If you find one false, say at which input.
  Laid BY PROGRAM, IN A SANDBOX (cutbox-rows.mjs): the forced cells as the released guide's own fill.sh prints them over the translation 165935a3282b5608… (all of the seat's roots in one cut). By AI agents, Wed Nov 11 2026. No macro, syntax, notation, axiom, sorry.
-/
import Derived.Test.YtbjpecknlohicaaChecked
import GoSem.Claim
import GoSem.ClaimJoined
import GoSem.ClaimMapViews
import Derived.JoinedTies
import Derived.KernelRfl
namespace Go.Proofs.Ytbjpecknlohicaa
/- THE CELL 'sum', in the pinned program and in every row, IS THE sha256 OF THE DUMP (.gsa) THAT YtbjpecknlohicaaProg.lean LOADS. Nothing in Lean hashes anything: it is a label: what it is worth is what the hold of that sum in a sandbox is worth. -/
noncomputable def Try.pinned : Pinned := { name := "ytbjpecknlohicaa", sum := "165935a3282b5608f9614644b4fb849b12f32cbdfec0217537dff2ba9ed98c8f", checked := Try.checked }
namespace Rows
def none {H : Type} : Left H := { results := [], args := [] }

/-- 'laws.FnExactProps': WHATEVER THE INPUT: true; the input reads as it did. -/
def fnExactPropsSpec : ChangeSpec := { name := "fnExactProps", fn := fun _ => fun
  | [d] => { results := [.lit (.bool true)], args := [d] }
  | _ => none }
def fnExactPropsRow : OpenClaim := { program := "ytbjpecknlohicaa", sum := "165935a3282b5608f9614644b4fb849b12f32cbdfec0217537dff2ba9ed98c8f", func := "loop.example/g00666/laws.FnExactProps", spec := "fnExactProps", apart := false }
def FnExactPropsSaid : Prop := fnExactPropsRow.holds Try.pinned (OpenSpec.ofChange fnExactPropsSpec)

/-- ITS FALSE NEIGHBOUR: 'it returns false'. Refute it at one input. -/
def fnExactPropsWrong : ChangeSpec := { name := "fnExactProps", fn := fun _ => fun
  | [d] => { results := [.lit (.bool false)], args := [d] }
  | _ => none }
def FnExactPropsWrongFalsely : Prop := fnExactPropsRow.holds Try.pinned (OpenSpec.ofChange fnExactPropsWrong)

/-- 'laws.FnExactCallText': WHATEVER THE INPUT: true; the input reads as it did. -/
def fnExactCallTextSpec : ChangeSpec := { name := "fnExactCallText", fn := fun _ => fun
  | [d] => { results := [.lit (.bool true)], args := [d] }
  | _ => none }
def fnExactCallTextRow : OpenClaim := { program := "ytbjpecknlohicaa", sum := "165935a3282b5608f9614644b4fb849b12f32cbdfec0217537dff2ba9ed98c8f", func := "loop.example/g00666/laws.FnExactCallText", spec := "fnExactCallText", recurses := true, apart := false }
def FnExactCallTextSaid : Prop := fnExactCallTextRow.holds Try.pinned (OpenSpec.ofChange fnExactCallTextSpec)

/-- ITS FALSE NEIGHBOUR: 'it returns false'. Refute it at one input. -/
def fnExactCallTextWrong : ChangeSpec := { name := "fnExactCallText", fn := fun _ => fun
  | [d] => { results := [.lit (.bool false)], args := [d] }
  | _ => none }
def FnExactCallTextWrongFalsely : Prop := fnExactCallTextRow.holds Try.pinned (OpenSpec.ofChange fnExactCallTextWrong)

/-- 'laws.FnExactPatternOk': WHATEVER THE INPUT: true; the input reads as it did. -/
def fnExactPatternOkSpec : ChangeSpec := { name := "fnExactPatternOk", fn := fun _ => fun
  | [d] => { results := [.lit (.bool true)], args := [d] }
  | _ => none }
def fnExactPatternOkRow : OpenClaim := { program := "ytbjpecknlohicaa", sum := "165935a3282b5608f9614644b4fb849b12f32cbdfec0217537dff2ba9ed98c8f", func := "loop.example/g00666/laws.FnExactPatternOk", spec := "fnExactPatternOk", apart := false }
def FnExactPatternOkSaid : Prop := fnExactPatternOkRow.holds Try.pinned (OpenSpec.ofChange fnExactPatternOkSpec)

/-- ITS FALSE NEIGHBOUR: 'it returns false'. Refute it at one input. -/
def fnExactPatternOkWrong : ChangeSpec := { name := "fnExactPatternOk", fn := fun _ => fun
  | [d] => { results := [.lit (.bool false)], args := [d] }
  | _ => none }
def FnExactPatternOkWrongFalsely : Prop := fnExactPatternOkRow.holds Try.pinned (OpenSpec.ofChange fnExactPatternOkWrong)

/-- 'laws.FnExactBare': WHATEVER THE INPUT: true; the input reads as it did. -/
def fnExactBareSpec : ChangeSpec := { name := "fnExactBare", fn := fun _ => fun
  | [d] => { results := [.lit (.bool true)], args := [d] }
  | _ => none }
def fnExactBareRow : OpenClaim := { program := "ytbjpecknlohicaa", sum := "165935a3282b5608f9614644b4fb849b12f32cbdfec0217537dff2ba9ed98c8f", func := "loop.example/g00666/laws.FnExactBare", spec := "fnExactBare", apart := false }
def FnExactBareSaid : Prop := fnExactBareRow.holds Try.pinned (OpenSpec.ofChange fnExactBareSpec)

/-- ITS FALSE NEIGHBOUR: 'it returns false'. Refute it at one input. -/
def fnExactBareWrong : ChangeSpec := { name := "fnExactBare", fn := fun _ => fun
  | [d] => { results := [.lit (.bool false)], args := [d] }
  | _ => none }
def FnExactBareWrongFalsely : Prop := fnExactBareRow.holds Try.pinned (OpenSpec.ofChange fnExactBareWrong)

/-- 'laws.FnExactGraphOk': WHATEVER THE INPUT: true; the input reads as it did. -/
def fnExactGraphOkSpec : ChangeSpec := { name := "fnExactGraphOk", fn := fun _ => fun
  | [d] => { results := [.lit (.bool true)], args := [d] }
  | _ => none }
def fnExactGraphOkRow : OpenClaim := { program := "ytbjpecknlohicaa", sum := "165935a3282b5608f9614644b4fb849b12f32cbdfec0217537dff2ba9ed98c8f", func := "loop.example/g00666/laws.FnExactGraphOk", spec := "fnExactGraphOk", unfollowed := true, recurses := true, apart := false }
def FnExactGraphOkSaid : Prop := fnExactGraphOkRow.holds Try.pinned (OpenSpec.ofChange fnExactGraphOkSpec)

/-- ITS FALSE NEIGHBOUR: 'it returns false'. Refute it at one input. -/
def fnExactGraphOkWrong : ChangeSpec := { name := "fnExactGraphOk", fn := fun _ => fun
  | [d] => { results := [.lit (.bool false)], args := [d] }
  | _ => none }
def FnExactGraphOkWrongFalsely : Prop := fnExactGraphOkRow.holds Try.pinned (OpenSpec.ofChange fnExactGraphOkWrong)

/-- 'laws.FnExactTextCall': WHATEVER THE INPUT: true; the input reads as it did. -/
def fnExactTextCallSpec : ChangeSpec := { name := "fnExactTextCall", fn := fun _ => fun
  | [d] => { results := [.lit (.bool true)], args := [d] }
  | _ => none }
def fnExactTextCallRow : OpenClaim := { program := "ytbjpecknlohicaa", sum := "165935a3282b5608f9614644b4fb849b12f32cbdfec0217537dff2ba9ed98c8f", func := "loop.example/g00666/laws.FnExactTextCall", spec := "fnExactTextCall", inPlace := ["internal/bytealg.IndexByteString", "internal/bytealg.IndexString"], recurses := true, named := ["internal/bytealg.MaxLen"], apart := false }
def FnExactTextCallSaid : Prop := fnExactTextCallRow.holds Try.pinned (OpenSpec.ofChange fnExactTextCallSpec)

/-- ITS FALSE NEIGHBOUR: 'it returns false'. Refute it at one input. -/
def fnExactTextCallWrong : ChangeSpec := { name := "fnExactTextCall", fn := fun _ => fun
  | [d] => { results := [.lit (.bool false)], args := [d] }
  | _ => none }
def FnExactTextCallWrongFalsely : Prop := fnExactTextCallRow.holds Try.pinned (OpenSpec.ofChange fnExactTextCallWrong)

/-- 'laws.FnExactSameGraph': WHATEVER THE INPUT: true; the input reads as it did. -/
def fnExactSameGraphSpec : ChangeSpec := { name := "fnExactSameGraph", fn := fun _ => fun
  | [d1, d2] => { results := [.lit (.bool true)], args := [d1, d2] }
  | _ => none }
def fnExactSameGraphRow : OpenClaim := { program := "ytbjpecknlohicaa", sum := "165935a3282b5608f9614644b4fb849b12f32cbdfec0217537dff2ba9ed98c8f", func := "loop.example/g00666/laws.FnExactSameGraph", spec := "fnExactSameGraph", unfollowed := true, recurses := true, apart := false }
def FnExactSameGraphSaid : Prop := fnExactSameGraphRow.holds Try.pinned (OpenSpec.ofChange fnExactSameGraphSpec)

/-- ITS FALSE NEIGHBOUR: 'it returns false'. Refute it at one input. -/
def fnExactSameGraphWrong : ChangeSpec := { name := "fnExactSameGraph", fn := fun _ => fun
  | [d1, d2] => { results := [.lit (.bool false)], args := [d1, d2] }
  | _ => none }
def FnExactSameGraphWrongFalsely : Prop := fnExactSameGraphRow.holds Try.pinned (OpenSpec.ofChange fnExactSameGraphWrong)

/-- 'laws.FnExactAnswerText': WHATEVER THE INPUT: true; the input reads as it did. -/
def fnExactAnswerTextSpec : ChangeSpec := { name := "fnExactAnswerText", fn := fun _ => fun
  | [d] => { results := [.lit (.bool true)], args := [d] }
  | _ => none }
def fnExactAnswerTextRow : OpenClaim := { program := "ytbjpecknlohicaa", sum := "165935a3282b5608f9614644b4fb849b12f32cbdfec0217537dff2ba9ed98c8f", func := "loop.example/g00666/laws.FnExactAnswerText", spec := "fnExactAnswerText", recurses := true, apart := false }
def FnExactAnswerTextSaid : Prop := fnExactAnswerTextRow.holds Try.pinned (OpenSpec.ofChange fnExactAnswerTextSpec)

/-- ITS FALSE NEIGHBOUR: 'it returns false'. Refute it at one input. -/
def fnExactAnswerTextWrong : ChangeSpec := { name := "fnExactAnswerText", fn := fun _ => fun
  | [d] => { results := [.lit (.bool false)], args := [d] }
  | _ => none }
def FnExactAnswerTextWrongFalsely : Prop := fnExactAnswerTextRow.holds Try.pinned (OpenSpec.ofChange fnExactAnswerTextWrong)

/-- 'laws.FnExactShared': WHATEVER THE INPUT: true; the input reads as it did. -/
def fnExactSharedSpec : ChangeSpec := { name := "fnExactShared", fn := fun _ => fun
  | [d] => { results := [.lit (.bool true)], args := [d] }
  | _ => none }
def fnExactSharedRow : OpenClaim := { program := "ytbjpecknlohicaa", sum := "165935a3282b5608f9614644b4fb849b12f32cbdfec0217537dff2ba9ed98c8f", func := "loop.example/g00666/laws.FnExactShared", spec := "fnExactShared", unfollowed := true, recurses := true, apart := false }
def FnExactSharedSaid : Prop := fnExactSharedRow.holds Try.pinned (OpenSpec.ofChange fnExactSharedSpec)

/-- ITS FALSE NEIGHBOUR: 'it returns false'. Refute it at one input. -/
def fnExactSharedWrong : ChangeSpec := { name := "fnExactShared", fn := fun _ => fun
  | [d] => { results := [.lit (.bool false)], args := [d] }
  | _ => none }
def FnExactSharedWrongFalsely : Prop := fnExactSharedRow.holds Try.pinned (OpenSpec.ofChange fnExactSharedWrong)

/-- 'laws.FnExactDecompose': WHATEVER THE INPUT: true; the input reads as it did. -/
def fnExactDecomposeSpec : ChangeSpec := { name := "fnExactDecompose", fn := fun _ => fun
  | [d] => { results := [.lit (.bool true)], args := [d] }
  | _ => none }
def fnExactDecomposeRow : OpenClaim := { program := "ytbjpecknlohicaa", sum := "165935a3282b5608f9614644b4fb849b12f32cbdfec0217537dff2ba9ed98c8f", func := "loop.example/g00666/laws.FnExactDecompose", spec := "fnExactDecompose", unfollowed := true, recurses := true, apart := false }
def FnExactDecomposeSaid : Prop := fnExactDecomposeRow.holds Try.pinned (OpenSpec.ofChange fnExactDecomposeSpec)

/-- ITS FALSE NEIGHBOUR: 'it returns false'. Refute it at one input. -/
def fnExactDecomposeWrong : ChangeSpec := { name := "fnExactDecompose", fn := fun _ => fun
  | [d] => { results := [.lit (.bool false)], args := [d] }
  | _ => none }
def FnExactDecomposeWrongFalsely : Prop := fnExactDecomposeRow.holds Try.pinned (OpenSpec.ofChange fnExactDecomposeWrong)

/- THE SECOND FORM. 'bulk': how many values and letters a reading holds, each counted each time it is reached (what is shared counts as often as it is met; a slice's spare places count too). A statement '..UptoSaid' is the law's where the arguments, and the package variables that the reading takes, are together of bulk at most 1048576: NARROWER than '..Said'. Prove '..Said' where nothing that the law and all that it calls make is longer than what came in: it says more and counts as full. Else prove '..UptoSaid'. A law counts once. -/
mutual
def uptoBulk {H : Type} : DataW H → Nat
  | .lit (.string bytes) => bytes.length + 1
  | .lit _ => 1
  | .nil => 1
  | .ptr d => uptoBulk d + 1
  | .slice elems spare => uptoBulkAll elems + uptoBulkAll spare + 1
  | .agg parts => uptoBulkAll parts + 1
  | .iface _ d => uptoBulk d + 1
  | .map entries => uptoBulkEntries entries + 1
  | .held _ => 1
def uptoBulkAll {H : Type} : List (DataW H) → Nat
  | [] => 0
  | d :: r => uptoBulk d + uptoBulkAll r
def uptoBulkEntries {H : Type} : List (Lit × DataW H) → Nat
  | [] => 0
  | x :: r => uptoBulkEntry x + uptoBulkEntries r
def uptoBulkEntry {H : Type} : Lit × DataW H → Nat
  | (.string bytes, d) => bytes.length + uptoBulk d + 1
  | (_, d) => uptoBulk d + 1
 end
def uptoSmall : (H : Type) → List (DataW H) → Bool := fun _ ds => decide (uptoBulkAll ds ≤ 1048576)
def OpenSpec.upto (s : _root_.Go.ChangeSpec) : _root_.Go.OpenSpec := { _root_.Go.OpenSpec.ofChange s with cond := some uptoSmall }

/-- 'laws.FnExactProps', WHERE WHAT IT READS IS OF BULK AT MOST 1048576: true; the input reads as it did. -/
def fnExactPropsUptoRow : OpenClaim := { program := "ytbjpecknlohicaa", sum := "165935a3282b5608f9614644b4fb849b12f32cbdfec0217537dff2ba9ed98c8f", func := "loop.example/g00666/laws.FnExactProps", spec := "fnExactProps", apart := false, narrowed := true }
def FnExactPropsUptoSaid : Prop := fnExactPropsUptoRow.holds Try.pinned (OpenSpec.upto fnExactPropsSpec)

/-- 'laws.FnExactCallText', WHERE WHAT IT READS IS OF BULK AT MOST 1048576: true; the input reads as it did. -/
def fnExactCallTextUptoRow : OpenClaim := { program := "ytbjpecknlohicaa", sum := "165935a3282b5608f9614644b4fb849b12f32cbdfec0217537dff2ba9ed98c8f", func := "loop.example/g00666/laws.FnExactCallText", spec := "fnExactCallText", recurses := true, apart := false, narrowed := true }
def FnExactCallTextUptoSaid : Prop := fnExactCallTextUptoRow.holds Try.pinned (OpenSpec.upto fnExactCallTextSpec)

/-- 'laws.FnExactPatternOk', WHERE WHAT IT READS IS OF BULK AT MOST 1048576: true; the input reads as it did. -/
def fnExactPatternOkUptoRow : OpenClaim := { program := "ytbjpecknlohicaa", sum := "165935a3282b5608f9614644b4fb849b12f32cbdfec0217537dff2ba9ed98c8f", func := "loop.example/g00666/laws.FnExactPatternOk", spec := "fnExactPatternOk", apart := false, narrowed := true }
def FnExactPatternOkUptoSaid : Prop := fnExactPatternOkUptoRow.holds Try.pinned (OpenSpec.upto fnExactPatternOkSpec)

/-- 'laws.FnExactBare', WHERE WHAT IT READS IS OF BULK AT MOST 1048576: true; the input reads as it did. -/
def fnExactBareUptoRow : OpenClaim := { program := "ytbjpecknlohicaa", sum := "165935a3282b5608f9614644b4fb849b12f32cbdfec0217537dff2ba9ed98c8f", func := "loop.example/g00666/laws.FnExactBare", spec := "fnExactBare", apart := false, narrowed := true }
def FnExactBareUptoSaid : Prop := fnExactBareUptoRow.holds Try.pinned (OpenSpec.upto fnExactBareSpec)

/-- 'laws.FnExactGraphOk', WHERE WHAT IT READS IS OF BULK AT MOST 1048576: true; the input reads as it did. -/
def fnExactGraphOkUptoRow : OpenClaim := { program := "ytbjpecknlohicaa", sum := "165935a3282b5608f9614644b4fb849b12f32cbdfec0217537dff2ba9ed98c8f", func := "loop.example/g00666/laws.FnExactGraphOk", spec := "fnExactGraphOk", unfollowed := true, recurses := true, apart := false, narrowed := true }
def FnExactGraphOkUptoSaid : Prop := fnExactGraphOkUptoRow.holds Try.pinned (OpenSpec.upto fnExactGraphOkSpec)

/-- 'laws.FnExactTextCall', WHERE WHAT IT READS IS OF BULK AT MOST 1048576: true; the input reads as it did. -/
def fnExactTextCallUptoRow : OpenClaim := { program := "ytbjpecknlohicaa", sum := "165935a3282b5608f9614644b4fb849b12f32cbdfec0217537dff2ba9ed98c8f", func := "loop.example/g00666/laws.FnExactTextCall", spec := "fnExactTextCall", inPlace := ["internal/bytealg.IndexByteString", "internal/bytealg.IndexString"], recurses := true, named := ["internal/bytealg.MaxLen"], apart := false, narrowed := true }
def FnExactTextCallUptoSaid : Prop := fnExactTextCallUptoRow.holds Try.pinned (OpenSpec.upto fnExactTextCallSpec)

/-- 'laws.FnExactSameGraph', WHERE WHAT IT READS IS OF BULK AT MOST 1048576: true; the input reads as it did. -/
def fnExactSameGraphUptoRow : OpenClaim := { program := "ytbjpecknlohicaa", sum := "165935a3282b5608f9614644b4fb849b12f32cbdfec0217537dff2ba9ed98c8f", func := "loop.example/g00666/laws.FnExactSameGraph", spec := "fnExactSameGraph", unfollowed := true, recurses := true, apart := false, narrowed := true }
def FnExactSameGraphUptoSaid : Prop := fnExactSameGraphUptoRow.holds Try.pinned (OpenSpec.upto fnExactSameGraphSpec)

/-- 'laws.FnExactAnswerText', WHERE WHAT IT READS IS OF BULK AT MOST 1048576: true; the input reads as it did. -/
def fnExactAnswerTextUptoRow : OpenClaim := { program := "ytbjpecknlohicaa", sum := "165935a3282b5608f9614644b4fb849b12f32cbdfec0217537dff2ba9ed98c8f", func := "loop.example/g00666/laws.FnExactAnswerText", spec := "fnExactAnswerText", recurses := true, apart := false, narrowed := true }
def FnExactAnswerTextUptoSaid : Prop := fnExactAnswerTextUptoRow.holds Try.pinned (OpenSpec.upto fnExactAnswerTextSpec)

/-- 'laws.FnExactShared', WHERE WHAT IT READS IS OF BULK AT MOST 1048576: true; the input reads as it did. -/
def fnExactSharedUptoRow : OpenClaim := { program := "ytbjpecknlohicaa", sum := "165935a3282b5608f9614644b4fb849b12f32cbdfec0217537dff2ba9ed98c8f", func := "loop.example/g00666/laws.FnExactShared", spec := "fnExactShared", unfollowed := true, recurses := true, apart := false, narrowed := true }
def FnExactSharedUptoSaid : Prop := fnExactSharedUptoRow.holds Try.pinned (OpenSpec.upto fnExactSharedSpec)

/-- 'laws.FnExactDecompose', WHERE WHAT IT READS IS OF BULK AT MOST 1048576: true; the input reads as it did. -/
def fnExactDecomposeUptoRow : OpenClaim := { program := "ytbjpecknlohicaa", sum := "165935a3282b5608f9614644b4fb849b12f32cbdfec0217537dff2ba9ed98c8f", func := "loop.example/g00666/laws.FnExactDecompose", spec := "fnExactDecompose", unfollowed := true, recurses := true, apart := false, narrowed := true }
def FnExactDecomposeUptoSaid : Prop := fnExactDecomposeUptoRow.holds Try.pinned (OpenSpec.upto fnExactDecomposeSpec)

end Rows
end Go.Proofs.Ytbjpecknlohicaa
