/-
  DERIVED. GIVEN WITH THE SEED: THE CARDS: each row of YtbjpecknlohicaaDoorRows.lean that lists a variable, with what it lists TIED to the program's text (the seventh form; the later family's looks); each row that meets fmt, with fmt's text TOLD by the authors' own Lean function (tested against real Go, not proved from fmt's source: count such statements apart). THE CARD IS WHAT COUNTS. Prove the row's statement (the work); the ties are given (YtbjpecknlohicaaDoorTie.lean); close each card by the builder's one call (the guide's Derived/Test/ToyasCard.lean, 'card_holds'). Laid BY PROGRAM, IN A SANDBOX (cutbox-door.mjs). By AI agents, Wed Nov 11 2026. No macro, syntax, notation, axiom, sorry.
-/
import Derived.Test.YtbjpecknlohicaaDoorRows
import GoSem.ClaimSeven
namespace Go.Proofs.YtbjpecknlohicaaDoor
namespace Rows

/-- THE TIED CARD OF 'laws.FnExactQuote'. -/
def fnExactQuoteCard : Claim7 := { stood := { row := fnExactQuoteRow, standIns := [], harness := (true, "8d5503fdefdf2dee0a4dbdbe479926cb52b20ffa4c3d9b5635f0c7b105789fa8"), looks := false }, kinds := [], alts := [], laidByText := true, laidKinds := [.data, .pinned], laidTests := true, laidLooks := .later }
def FnExactQuoteCardSaid : Prop := Claim7.holds Tryd.pinned (.plain (OpenSpec.ofChange fnExactQuoteSpec)) fnExactQuoteCard

/-- THE TIED CARD OF 'laws.FnExactReadCalls'. -/
def fnExactReadCallsCard : Claim7 := { stood := { row := fnExactReadCallsRow, standIns := [], harness := (true, "8d5503fdefdf2dee0a4dbdbe479926cb52b20ffa4c3d9b5635f0c7b105789fa8"), looks := false }, kinds := [], alts := [], laidByText := true, laidKinds := [.data, .pinned], laidTests := true, laidLooks := .later }
def FnExactReadCallsCardSaid : Prop := Claim7.holds Tryd.pinned (.plain (OpenSpec.ofChange fnExactReadCallsSpec)) fnExactReadCallsCard

/-- THE SECOND FORM's CARD OF 'laws.FnExactQuote'. -/
def fnExactQuoteUptoCard : Claim7 := { stood := { row := fnExactQuoteUptoRow, standIns := [], harness := (true, "8d5503fdefdf2dee0a4dbdbe479926cb52b20ffa4c3d9b5635f0c7b105789fa8"), looks := false }, kinds := [], alts := [], laidByText := true, laidKinds := [.data, .pinned], laidTests := true, laidLooks := .later }
def FnExactQuoteUptoCardSaid : Prop := Claim7.holds Tryd.pinned (.plain (OpenSpec.upto fnExactQuoteSpec)) fnExactQuoteUptoCard

/-- THE SECOND FORM's CARD OF 'laws.FnExactReadCalls'. -/
def fnExactReadCallsUptoCard : Claim7 := { stood := { row := fnExactReadCallsUptoRow, standIns := [], harness := (true, "8d5503fdefdf2dee0a4dbdbe479926cb52b20ffa4c3d9b5635f0c7b105789fa8"), looks := false }, kinds := [], alts := [], laidByText := true, laidKinds := [.data, .pinned], laidTests := true, laidLooks := .later }
def FnExactReadCallsUptoCardSaid : Prop := Claim7.holds Tryd.pinned (.plain (OpenSpec.upto fnExactReadCallsSpec)) fnExactReadCallsUptoCard
end Rows
end Go.Proofs.YtbjpecknlohicaaDoor
