/-
  NARROWER THAN 'FOR EVERY INPUT', by the rows' own cells (each row's printed sentence says how): FnExactPickText: laid · FnExactCanWrite: laid · FnExactWriteFlow: laid · FnExactBlockLines: laid · FnExactWriteBlock: laid · FnQuote: laid.
  DERIVED. THE GIVEN ROWS OF THIS SEAT. 6 by the template 'for every input the law returns true; each argument reads behind the call as it read before'; 0 by the template 'total and deterministic' (their statements: YtcbjmggbbnpbpaaDoorTotals.lean).
  GIVEN WITH THE SEED: the statements are not yours to turn. If you find one false, say at which input.
  Laid BY PROGRAM, IN A SANDBOX (cutbox-rows.mjs): the forced cells as the released guide's own fill.sh prints them over the translation cbe0b7fd5212681a… (all of the seat's roots in one cut). By AI agents, Wed Nov 11 2026. No macro, syntax, notation, axiom, sorry.
-/
import Derived.Test.YtcbjmggbbnpbpaaDoorChecked
import GoSem.PinnedTables
import GoSem.Claim
import GoSem.ClaimJoined
import GoSem.ClaimMapViews
import Derived.JoinedTies
import Derived.KernelRfl
namespace Go.Proofs.YtcbjmggbbnpbpaaDoor
/- THE CELL 'sum', in the pinned program and in every row, IS THE sha256 OF THE DUMP (.gsa) THAT YtcbjmggbbnpbpaaDoorProg.lean LOADS. Nothing in Lean hashes anything: it is a label: what it is worth is what the hold of that sum in a sandbox is worth. -/
noncomputable def Tryd.pinned : Pinned := { name := "ytcbjmggbbnpbpaadoor", sum := "cbe0b7fd5212681a5ff20f33787d35c6ac4f4df26bb6f637073fbdcc49e601f1", checked := Tryd.checked }
namespace Rows
def none {H : Type} : Left H := { results := [], args := [] }

/- WHAT THE LISTED PACKAGE-LEVEL VARIABLES READ AS WHEN THE CALL BEGINS. Each datum BY PROGRAM (the guide's laid-datum.mjs) off the statement by which the dump's own 'gosem.cut.vars' lays the variable. In a bare row this is a premise. The card (YtcbjmggbbnpbpaaDoorCards.lean) ties it to the program's text. -/
def laid_unicode_utf8_acceptRanges {H : Type} : DataW H := .agg [.agg [.lit (.int .u8 128), .lit (.int .u8 191)], .agg [.lit (.int .u8 160), .lit (.int .u8 191)], .agg [.lit (.int .u8 128), .lit (.int .u8 159)], .agg [.lit (.int .u8 144), .lit (.int .u8 191)], .agg [.lit (.int .u8 128), .lit (.int .u8 143)], .agg [.lit (.int .u8 0), .lit (.int .u8 0)], .agg [.lit (.int .u8 0), .lit (.int .u8 0)], .agg [.lit (.int .u8 0), .lit (.int .u8 0)], .agg [.lit (.int .u8 0), .lit (.int .u8 0)], .agg [.lit (.int .u8 0), .lit (.int .u8 0)], .agg [.lit (.int .u8 0), .lit (.int .u8 0)], .agg [.lit (.int .u8 0), .lit (.int .u8 0)], .agg [.lit (.int .u8 0), .lit (.int .u8 0)], .agg [.lit (.int .u8 0), .lit (.int .u8 0)], .agg [.lit (.int .u8 0), .lit (.int .u8 0)], .agg [.lit (.int .u8 0), .lit (.int .u8 0)]]
/-- One of Go's own tables, pinned by name: the form's constant. -/
def laid_unicode_utf8_first : DataW Unit := Go.Pinned.utf8First

/-- 'laws.FnExactPickText': WHATEVER THE INPUT: true; the input reads as it did. -/
def fnExactPickTextSpec : ChangeSpec := { name := "fnExactPickText", fn := fun _ => fun
  | [d] => { results := [.lit (.bool true)], args := [d] }
  | _ => none }
def fnExactPickTextRow : OpenClaim := { program := "ytcbjmggbbnpbpaadoor", sum := "cbe0b7fd5212681a5ff20f33787d35c6ac4f4df26bb6f637073fbdcc49e601f1", func := "loop.example/g00666/laws.FnExactPickText", spec := "fnExactPickText", inPlace := ["internal/bytealg.CountString", "internal/bytealg.IndexByteString", "internal/bytealg.IndexString", "internal/abi.NoEscape", "internal/bytealg.MakeNoZero"], recurses := true, named := ["internal/bytealg.MaxLen", "unicode/utf8.first", "unicode/utf8.acceptRanges"], apart := false, laid := [("unicode/utf8.acceptRanges", laid_unicode_utf8_acceptRanges), ("unicode/utf8.first", laid_unicode_utf8_first)] }
def FnExactPickTextSaid : Prop := fnExactPickTextRow.holds Tryd.pinned (OpenSpec.ofChange fnExactPickTextSpec)

/-- ITS FALSE NEIGHBOUR: 'it returns false'. Refute it at one input. -/
def fnExactPickTextWrong : ChangeSpec := { name := "fnExactPickText", fn := fun _ => fun
  | [d] => { results := [.lit (.bool false)], args := [d] }
  | _ => none }
def FnExactPickTextWrongFalsely : Prop := fnExactPickTextRow.holds Tryd.pinned (OpenSpec.ofChange fnExactPickTextWrong)

/-- 'laws.FnExactCanWrite': WHATEVER THE INPUT: true; the input reads as it did. -/
def fnExactCanWriteSpec : ChangeSpec := { name := "fnExactCanWrite", fn := fun _ => fun
  | [d] => { results := [.lit (.bool true)], args := [d] }
  | _ => none }
def fnExactCanWriteRow : OpenClaim := { program := "ytcbjmggbbnpbpaadoor", sum := "cbe0b7fd5212681a5ff20f33787d35c6ac4f4df26bb6f637073fbdcc49e601f1", func := "loop.example/g00666/laws.FnExactCanWrite", spec := "fnExactCanWrite", inPlace := ["internal/bytealg.IndexByteString", "internal/bytealg.IndexString"], unfollowed := true, recurses := true, named := ["internal/bytealg.MaxLen", "unicode/utf8.first", "unicode/utf8.acceptRanges"], apart := false, laid := [("unicode/utf8.acceptRanges", laid_unicode_utf8_acceptRanges), ("unicode/utf8.first", laid_unicode_utf8_first)] }
def FnExactCanWriteSaid : Prop := fnExactCanWriteRow.holds Tryd.pinned (OpenSpec.ofChange fnExactCanWriteSpec)

/-- ITS FALSE NEIGHBOUR: 'it returns false'. Refute it at one input. -/
def fnExactCanWriteWrong : ChangeSpec := { name := "fnExactCanWrite", fn := fun _ => fun
  | [d] => { results := [.lit (.bool false)], args := [d] }
  | _ => none }
def FnExactCanWriteWrongFalsely : Prop := fnExactCanWriteRow.holds Tryd.pinned (OpenSpec.ofChange fnExactCanWriteWrong)

/-- 'laws.FnExactWriteFlow': WHATEVER THE INPUT: true; the input reads as it did. -/
def fnExactWriteFlowSpec : ChangeSpec := { name := "fnExactWriteFlow", fn := fun _ => fun
  | [d] => { results := [.lit (.bool true)], args := [d] }
  | _ => none }
def fnExactWriteFlowRow : OpenClaim := { program := "ytcbjmggbbnpbpaadoor", sum := "cbe0b7fd5212681a5ff20f33787d35c6ac4f4df26bb6f637073fbdcc49e601f1", func := "loop.example/g00666/laws.FnExactWriteFlow", spec := "fnExactWriteFlow", inPlace := ["internal/bytealg.IndexByteString", "internal/bytealg.IndexString", "internal/abi.NoEscape", "internal/bytealg.MakeNoZero"], unfollowed := true, recurses := true, named := ["internal/bytealg.MaxLen", "unicode/utf8.first", "unicode/utf8.acceptRanges"], apart := false, laid := [("unicode/utf8.acceptRanges", laid_unicode_utf8_acceptRanges), ("unicode/utf8.first", laid_unicode_utf8_first)] }
def FnExactWriteFlowSaid : Prop := fnExactWriteFlowRow.holds Tryd.pinned (OpenSpec.ofChange fnExactWriteFlowSpec)

/-- ITS FALSE NEIGHBOUR: 'it returns false'. Refute it at one input. -/
def fnExactWriteFlowWrong : ChangeSpec := { name := "fnExactWriteFlow", fn := fun _ => fun
  | [d] => { results := [.lit (.bool false)], args := [d] }
  | _ => none }
def FnExactWriteFlowWrongFalsely : Prop := fnExactWriteFlowRow.holds Tryd.pinned (OpenSpec.ofChange fnExactWriteFlowWrong)

/-- 'laws.FnExactBlockLines': WHATEVER THE INPUT: true; the input reads as it did. -/
def fnExactBlockLinesSpec : ChangeSpec := { name := "fnExactBlockLines", fn := fun _ => fun
  | [d1, d2, d3] => { results := [.lit (.bool true)], args := [d1, d2, d3] }
  | _ => none }
def fnExactBlockLinesRow : OpenClaim := { program := "ytcbjmggbbnpbpaadoor", sum := "cbe0b7fd5212681a5ff20f33787d35c6ac4f4df26bb6f637073fbdcc49e601f1", func := "loop.example/g00666/laws.FnExactBlockLines", spec := "fnExactBlockLines", inPlace := ["internal/bytealg.IndexByteString", "internal/bytealg.IndexString", "internal/abi.NoEscape", "internal/bytealg.MakeNoZero"], unfollowed := true, recurses := true, named := ["internal/bytealg.MaxLen", "unicode/utf8.first", "unicode/utf8.acceptRanges"], apart := false, laid := [("unicode/utf8.acceptRanges", laid_unicode_utf8_acceptRanges), ("unicode/utf8.first", laid_unicode_utf8_first)] }
def FnExactBlockLinesSaid : Prop := fnExactBlockLinesRow.holds Tryd.pinned (OpenSpec.ofChange fnExactBlockLinesSpec)

/-- ITS FALSE NEIGHBOUR: 'it returns false'. Refute it at one input. -/
def fnExactBlockLinesWrong : ChangeSpec := { name := "fnExactBlockLines", fn := fun _ => fun
  | [d1, d2, d3] => { results := [.lit (.bool false)], args := [d1, d2, d3] }
  | _ => none }
def FnExactBlockLinesWrongFalsely : Prop := fnExactBlockLinesRow.holds Tryd.pinned (OpenSpec.ofChange fnExactBlockLinesWrong)

/-- 'laws.FnExactWriteBlock': WHATEVER THE INPUT: true; the input reads as it did. -/
def fnExactWriteBlockSpec : ChangeSpec := { name := "fnExactWriteBlock", fn := fun _ => fun
  | [d] => { results := [.lit (.bool true)], args := [d] }
  | _ => none }
def fnExactWriteBlockRow : OpenClaim := { program := "ytcbjmggbbnpbpaadoor", sum := "cbe0b7fd5212681a5ff20f33787d35c6ac4f4df26bb6f637073fbdcc49e601f1", func := "loop.example/g00666/laws.FnExactWriteBlock", spec := "fnExactWriteBlock", inPlace := ["internal/bytealg.IndexByteString", "internal/bytealg.IndexString", "internal/abi.NoEscape", "internal/bytealg.MakeNoZero"], unfollowed := true, recurses := true, named := ["internal/bytealg.MaxLen", "unicode/utf8.first", "unicode/utf8.acceptRanges"], apart := false, laid := [("unicode/utf8.acceptRanges", laid_unicode_utf8_acceptRanges), ("unicode/utf8.first", laid_unicode_utf8_first)] }
def FnExactWriteBlockSaid : Prop := fnExactWriteBlockRow.holds Tryd.pinned (OpenSpec.ofChange fnExactWriteBlockSpec)

/-- ITS FALSE NEIGHBOUR: 'it returns false'. Refute it at one input. -/
def fnExactWriteBlockWrong : ChangeSpec := { name := "fnExactWriteBlock", fn := fun _ => fun
  | [d] => { results := [.lit (.bool false)], args := [d] }
  | _ => none }
def FnExactWriteBlockWrongFalsely : Prop := fnExactWriteBlockRow.holds Tryd.pinned (OpenSpec.ofChange fnExactWriteBlockWrong)

/-- 'laws.FnQuote': WHATEVER THE INPUT: true; the input reads as it did. -/
def fnQuoteSpec : ChangeSpec := { name := "fnQuote", fn := fun _ => fun
  | [d] => { results := [.lit (.bool true)], args := [d] }
  | _ => none }
def fnQuoteRow : OpenClaim := { program := "ytcbjmggbbnpbpaadoor", sum := "cbe0b7fd5212681a5ff20f33787d35c6ac4f4df26bb6f637073fbdcc49e601f1", func := "loop.example/g00666/laws.FnQuote", spec := "fnQuote", inPlace := ["internal/abi.NoEscape", "internal/bytealg.MakeNoZero"], named := ["unicode/utf8.first", "unicode/utf8.acceptRanges"], apart := false, laid := [("unicode/utf8.acceptRanges", laid_unicode_utf8_acceptRanges), ("unicode/utf8.first", laid_unicode_utf8_first)] }
def FnQuoteSaid : Prop := fnQuoteRow.holds Tryd.pinned (OpenSpec.ofChange fnQuoteSpec)

/-- ITS FALSE NEIGHBOUR: 'it returns false'. Refute it at one input. -/
def fnQuoteWrong : ChangeSpec := { name := "fnQuote", fn := fun _ => fun
  | [d] => { results := [.lit (.bool false)], args := [d] }
  | _ => none }
def FnQuoteWrongFalsely : Prop := fnQuoteRow.holds Tryd.pinned (OpenSpec.ofChange fnQuoteWrong)

/- THE SECOND FORM. 'bulk': how many values and letters a reading holds, each counted each time it is reached (what is shared counts as often as it is met; a slice's spare places count too). A statement '..UptoSaid' is the law's where the arguments, and the package variables that the reading takes, are together of bulk at most 1048576: NARROWER than '..Said'. Prove '..Said' where nothing that the law and all that it calls make is longer than what came in: it says more and counts as full. Else prove '..UptoSaid'. A law counts once. -/
mutual
def uptoBulk {H : Type} : DataW H → Nat
  | .lit (.string bytes) => bytes.length + 1
  | .lit _ => 1
  | .nil => 1
  | .ptr d => uptoBulk d + 1
  | .slice elems spare => uptoBulkAll elems + uptoBulkAll spare + 1
  | .agg parts => uptoBulkAll parts + 1
  | .iface _ d => uptoBulk d + 1
  | .map entries => uptoBulkEntries entries + 1
  | .held _ => 1
def uptoBulkAll {H : Type} : List (DataW H) → Nat
  | [] => 0
  | d :: r => uptoBulk d + uptoBulkAll r
def uptoBulkEntries {H : Type} : List (Lit × DataW H) → Nat
  | [] => 0
  | x :: r => uptoBulkEntry x + uptoBulkEntries r
def uptoBulkEntry {H : Type} : Lit × DataW H → Nat
  | (.string bytes, d) => bytes.length + uptoBulk d + 1
  | (_, d) => uptoBulk d + 1
 end
def uptoSmall : (H : Type) → List (DataW H) → Bool := fun _ ds => decide (uptoBulkAll ds ≤ 1048576)
def OpenSpec.upto (s : _root_.Go.ChangeSpec) : _root_.Go.OpenSpec := { _root_.Go.OpenSpec.ofChange s with cond := some uptoSmall }

/-- 'laws.FnExactPickText', WHERE WHAT IT READS IS OF BULK AT MOST 1048576: true; the input reads as it did. -/
def fnExactPickTextUptoRow : OpenClaim := { program := "ytcbjmggbbnpbpaadoor", sum := "cbe0b7fd5212681a5ff20f33787d35c6ac4f4df26bb6f637073fbdcc49e601f1", func := "loop.example/g00666/laws.FnExactPickText", spec := "fnExactPickText", inPlace := ["internal/bytealg.CountString", "internal/bytealg.IndexByteString", "internal/bytealg.IndexString", "internal/abi.NoEscape", "internal/bytealg.MakeNoZero"], recurses := true, named := ["internal/bytealg.MaxLen", "unicode/utf8.first", "unicode/utf8.acceptRanges"], apart := false, laid := [("unicode/utf8.acceptRanges", laid_unicode_utf8_acceptRanges), ("unicode/utf8.first", laid_unicode_utf8_first)], narrowed := true }
def FnExactPickTextUptoSaid : Prop := fnExactPickTextUptoRow.holds Tryd.pinned (OpenSpec.upto fnExactPickTextSpec)

/-- 'laws.FnExactCanWrite', WHERE WHAT IT READS IS OF BULK AT MOST 1048576: true; the input reads as it did. -/
def fnExactCanWriteUptoRow : OpenClaim := { program := "ytcbjmggbbnpbpaadoor", sum := "cbe0b7fd5212681a5ff20f33787d35c6ac4f4df26bb6f637073fbdcc49e601f1", func := "loop.example/g00666/laws.FnExactCanWrite", spec := "fnExactCanWrite", inPlace := ["internal/bytealg.IndexByteString", "internal/bytealg.IndexString"], unfollowed := true, recurses := true, named := ["internal/bytealg.MaxLen", "unicode/utf8.first", "unicode/utf8.acceptRanges"], apart := false, laid := [("unicode/utf8.acceptRanges", laid_unicode_utf8_acceptRanges), ("unicode/utf8.first", laid_unicode_utf8_first)], narrowed := true }
def FnExactCanWriteUptoSaid : Prop := fnExactCanWriteUptoRow.holds Tryd.pinned (OpenSpec.upto fnExactCanWriteSpec)

/-- 'laws.FnExactWriteFlow', WHERE WHAT IT READS IS OF BULK AT MOST 1048576: true; the input reads as it did. -/
def fnExactWriteFlowUptoRow : OpenClaim := { program := "ytcbjmggbbnpbpaadoor", sum := "cbe0b7fd5212681a5ff20f33787d35c6ac4f4df26bb6f637073fbdcc49e601f1", func := "loop.example/g00666/laws.FnExactWriteFlow", spec := "fnExactWriteFlow", inPlace := ["internal/bytealg.IndexByteString", "internal/bytealg.IndexString", "internal/abi.NoEscape", "internal/bytealg.MakeNoZero"], unfollowed := true, recurses := true, named := ["internal/bytealg.MaxLen", "unicode/utf8.first", "unicode/utf8.acceptRanges"], apart := false, laid := [("unicode/utf8.acceptRanges", laid_unicode_utf8_acceptRanges), ("unicode/utf8.first", laid_unicode_utf8_first)], narrowed := true }
def FnExactWriteFlowUptoSaid : Prop := fnExactWriteFlowUptoRow.holds Tryd.pinned (OpenSpec.upto fnExactWriteFlowSpec)

/-- 'laws.FnExactBlockLines', WHERE WHAT IT READS IS OF BULK AT MOST 1048576: true; the input reads as it did. -/
def fnExactBlockLinesUptoRow : OpenClaim := { program := "ytcbjmggbbnpbpaadoor", sum := "cbe0b7fd5212681a5ff20f33787d35c6ac4f4df26bb6f637073fbdcc49e601f1", func := "loop.example/g00666/laws.FnExactBlockLines", spec := "fnExactBlockLines", inPlace := ["internal/bytealg.IndexByteString", "internal/bytealg.IndexString", "internal/abi.NoEscape", "internal/bytealg.MakeNoZero"], unfollowed := true, recurses := true, named := ["internal/bytealg.MaxLen", "unicode/utf8.first", "unicode/utf8.acceptRanges"], apart := false, laid := [("unicode/utf8.acceptRanges", laid_unicode_utf8_acceptRanges), ("unicode/utf8.first", laid_unicode_utf8_first)], narrowed := true }
def FnExactBlockLinesUptoSaid : Prop := fnExactBlockLinesUptoRow.holds Tryd.pinned (OpenSpec.upto fnExactBlockLinesSpec)

/-- 'laws.FnExactWriteBlock', WHERE WHAT IT READS IS OF BULK AT MOST 1048576: true; the input reads as it did. -/
def fnExactWriteBlockUptoRow : OpenClaim := { program := "ytcbjmggbbnpbpaadoor", sum := "cbe0b7fd5212681a5ff20f33787d35c6ac4f4df26bb6f637073fbdcc49e601f1", func := "loop.example/g00666/laws.FnExactWriteBlock", spec := "fnExactWriteBlock", inPlace := ["internal/bytealg.IndexByteString", "internal/bytealg.IndexString", "internal/abi.NoEscape", "internal/bytealg.MakeNoZero"], unfollowed := true, recurses := true, named := ["internal/bytealg.MaxLen", "unicode/utf8.first", "unicode/utf8.acceptRanges"], apart := false, laid := [("unicode/utf8.acceptRanges", laid_unicode_utf8_acceptRanges), ("unicode/utf8.first", laid_unicode_utf8_first)], narrowed := true }
def FnExactWriteBlockUptoSaid : Prop := fnExactWriteBlockUptoRow.holds Tryd.pinned (OpenSpec.upto fnExactWriteBlockSpec)

/-- 'laws.FnQuote', WHERE WHAT IT READS IS OF BULK AT MOST 1048576: true; the input reads as it did. -/
def fnQuoteUptoRow : OpenClaim := { program := "ytcbjmggbbnpbpaadoor", sum := "cbe0b7fd5212681a5ff20f33787d35c6ac4f4df26bb6f637073fbdcc49e601f1", func := "loop.example/g00666/laws.FnQuote", spec := "fnQuote", inPlace := ["internal/abi.NoEscape", "internal/bytealg.MakeNoZero"], named := ["unicode/utf8.first", "unicode/utf8.acceptRanges"], apart := false, laid := [("unicode/utf8.acceptRanges", laid_unicode_utf8_acceptRanges), ("unicode/utf8.first", laid_unicode_utf8_first)], narrowed := true }
def FnQuoteUptoSaid : Prop := fnQuoteUptoRow.holds Tryd.pinned (OpenSpec.upto fnQuoteSpec)

end Rows
end Go.Proofs.YtcbjmggbbnpbpaaDoor
