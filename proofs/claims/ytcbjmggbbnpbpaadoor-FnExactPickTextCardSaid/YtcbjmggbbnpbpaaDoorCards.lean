/-
  DERIVED. GIVEN WITH THE SEED: THE CARDS: each row of YtcbjmggbbnpbpaaDoorRows.lean that lists a variable, with what it lists TIED to the program's text (the seventh form; the later family's looks); each row that meets fmt, with fmt's text TOLD by the authors' own Lean function (tested against real Go, not proved from fmt's source: count such statements apart). THE CARD IS WHAT COUNTS. Prove the row's statement (the work); the ties are given (YtcbjmggbbnpbpaaDoorTie.lean); close each card by the builder's one call (the guide's Derived/Test/ToyasCard.lean, 'card_holds'). Laid BY PROGRAM, IN A SANDBOX (cutbox-door.mjs). By AI agents, Wed Nov 11 2026. No macro, syntax, notation, axiom, sorry.
-/
import Derived.Test.YtcbjmggbbnpbpaaDoorRows
import GoSem.ClaimSeven
namespace Go.Proofs.YtcbjmggbbnpbpaaDoor
namespace Rows

/-- THE TIED CARD OF 'laws.FnExactPickText'. -/
def fnExactPickTextCard : Claim7 := { stood := { row := fnExactPickTextRow, standIns := [], harness := (true, "3f4bd9bcc0f3005d2957485c1007746909623afd6fe44977abc6da2b5c02edeb"), looks := false }, kinds := [], alts := [], laidByText := true, laidKinds := [.data, .pinned], laidTests := true, laidLooks := .later }
def FnExactPickTextCardSaid : Prop := Claim7.holds Tryd.pinned (.plain (OpenSpec.ofChange fnExactPickTextSpec)) fnExactPickTextCard

/-- THE TIED CARD OF 'laws.FnExactCanWrite'. -/
def fnExactCanWriteCard : Claim7 := { stood := { row := fnExactCanWriteRow, standIns := [], harness := (true, "3f4bd9bcc0f3005d2957485c1007746909623afd6fe44977abc6da2b5c02edeb"), looks := false }, kinds := [], alts := [], laidByText := true, laidKinds := [.data, .pinned], laidTests := true, laidLooks := .later }
def FnExactCanWriteCardSaid : Prop := Claim7.holds Tryd.pinned (.plain (OpenSpec.ofChange fnExactCanWriteSpec)) fnExactCanWriteCard

/-- THE TIED CARD OF 'laws.FnExactWriteFlow'. -/
def fnExactWriteFlowCard : Claim7 := { stood := { row := fnExactWriteFlowRow, standIns := [], harness := (true, "3f4bd9bcc0f3005d2957485c1007746909623afd6fe44977abc6da2b5c02edeb"), looks := false }, kinds := [], alts := [], laidByText := true, laidKinds := [.data, .pinned], laidTests := true, laidLooks := .later }
def FnExactWriteFlowCardSaid : Prop := Claim7.holds Tryd.pinned (.plain (OpenSpec.ofChange fnExactWriteFlowSpec)) fnExactWriteFlowCard

/-- THE TIED CARD OF 'laws.FnExactBlockLines'. -/
def fnExactBlockLinesCard : Claim7 := { stood := { row := fnExactBlockLinesRow, standIns := [], harness := (true, "3f4bd9bcc0f3005d2957485c1007746909623afd6fe44977abc6da2b5c02edeb"), looks := false }, kinds := [], alts := [], laidByText := true, laidKinds := [.data, .pinned], laidTests := true, laidLooks := .later }
def FnExactBlockLinesCardSaid : Prop := Claim7.holds Tryd.pinned (.plain (OpenSpec.ofChange fnExactBlockLinesSpec)) fnExactBlockLinesCard

/-- THE TIED CARD OF 'laws.FnExactWriteBlock'. -/
def fnExactWriteBlockCard : Claim7 := { stood := { row := fnExactWriteBlockRow, standIns := [], harness := (true, "3f4bd9bcc0f3005d2957485c1007746909623afd6fe44977abc6da2b5c02edeb"), looks := false }, kinds := [], alts := [], laidByText := true, laidKinds := [.data, .pinned], laidTests := true, laidLooks := .later }
def FnExactWriteBlockCardSaid : Prop := Claim7.holds Tryd.pinned (.plain (OpenSpec.ofChange fnExactWriteBlockSpec)) fnExactWriteBlockCard

/-- THE TIED CARD OF 'laws.FnQuote'. -/
def fnQuoteCard : Claim7 := { stood := { row := fnQuoteRow, standIns := [], harness := (true, "3f4bd9bcc0f3005d2957485c1007746909623afd6fe44977abc6da2b5c02edeb"), looks := false }, kinds := [], alts := [], laidByText := true, laidKinds := [.data, .pinned], laidTests := true, laidLooks := .later }
def FnQuoteCardSaid : Prop := Claim7.holds Tryd.pinned (.plain (OpenSpec.ofChange fnQuoteSpec)) fnQuoteCard

/-- THE SECOND FORM's CARD OF 'laws.FnExactPickText'. -/
def fnExactPickTextUptoCard : Claim7 := { stood := { row := fnExactPickTextUptoRow, standIns := [], harness := (true, "3f4bd9bcc0f3005d2957485c1007746909623afd6fe44977abc6da2b5c02edeb"), looks := false }, kinds := [], alts := [], laidByText := true, laidKinds := [.data, .pinned], laidTests := true, laidLooks := .later }
def FnExactPickTextUptoCardSaid : Prop := Claim7.holds Tryd.pinned (.plain (OpenSpec.upto fnExactPickTextSpec)) fnExactPickTextUptoCard

/-- THE SECOND FORM's CARD OF 'laws.FnExactCanWrite'. -/
def fnExactCanWriteUptoCard : Claim7 := { stood := { row := fnExactCanWriteUptoRow, standIns := [], harness := (true, "3f4bd9bcc0f3005d2957485c1007746909623afd6fe44977abc6da2b5c02edeb"), looks := false }, kinds := [], alts := [], laidByText := true, laidKinds := [.data, .pinned], laidTests := true, laidLooks := .later }
def FnExactCanWriteUptoCardSaid : Prop := Claim7.holds Tryd.pinned (.plain (OpenSpec.upto fnExactCanWriteSpec)) fnExactCanWriteUptoCard

/-- THE SECOND FORM's CARD OF 'laws.FnExactWriteFlow'. -/
def fnExactWriteFlowUptoCard : Claim7 := { stood := { row := fnExactWriteFlowUptoRow, standIns := [], harness := (true, "3f4bd9bcc0f3005d2957485c1007746909623afd6fe44977abc6da2b5c02edeb"), looks := false }, kinds := [], alts := [], laidByText := true, laidKinds := [.data, .pinned], laidTests := true, laidLooks := .later }
def FnExactWriteFlowUptoCardSaid : Prop := Claim7.holds Tryd.pinned (.plain (OpenSpec.upto fnExactWriteFlowSpec)) fnExactWriteFlowUptoCard

/-- THE SECOND FORM's CARD OF 'laws.FnExactBlockLines'. -/
def fnExactBlockLinesUptoCard : Claim7 := { stood := { row := fnExactBlockLinesUptoRow, standIns := [], harness := (true, "3f4bd9bcc0f3005d2957485c1007746909623afd6fe44977abc6da2b5c02edeb"), looks := false }, kinds := [], alts := [], laidByText := true, laidKinds := [.data, .pinned], laidTests := true, laidLooks := .later }
def FnExactBlockLinesUptoCardSaid : Prop := Claim7.holds Tryd.pinned (.plain (OpenSpec.upto fnExactBlockLinesSpec)) fnExactBlockLinesUptoCard

/-- THE SECOND FORM's CARD OF 'laws.FnExactWriteBlock'. -/
def fnExactWriteBlockUptoCard : Claim7 := { stood := { row := fnExactWriteBlockUptoRow, standIns := [], harness := (true, "3f4bd9bcc0f3005d2957485c1007746909623afd6fe44977abc6da2b5c02edeb"), looks := false }, kinds := [], alts := [], laidByText := true, laidKinds := [.data, .pinned], laidTests := true, laidLooks := .later }
def FnExactWriteBlockUptoCardSaid : Prop := Claim7.holds Tryd.pinned (.plain (OpenSpec.upto fnExactWriteBlockSpec)) fnExactWriteBlockUptoCard

/-- THE SECOND FORM's CARD OF 'laws.FnQuote'. -/
def fnQuoteUptoCard : Claim7 := { stood := { row := fnQuoteUptoRow, standIns := [], harness := (true, "3f4bd9bcc0f3005d2957485c1007746909623afd6fe44977abc6da2b5c02edeb"), looks := false }, kinds := [], alts := [], laidByText := true, laidKinds := [.data, .pinned], laidTests := true, laidLooks := .later }
def FnQuoteUptoCardSaid : Prop := Claim7.holds Tryd.pinned (.plain (OpenSpec.upto fnQuoteSpec)) fnQuoteUptoCard
end Rows
end Go.Proofs.YtcbjmggbbnpbpaaDoor
