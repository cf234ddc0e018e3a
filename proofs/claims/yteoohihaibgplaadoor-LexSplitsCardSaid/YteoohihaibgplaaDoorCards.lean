/-
  DERIVED. GIVEN WITH THE SEED: THE CARDS: each row of YteoohihaibgplaaDoorRows.lean that lists a variable, with what it lists TIED to the program's text (the seventh form; the later family's looks); each row that meets fmt, with fmt's text TOLD by the authors' own Lean function (tested against real Go, not proved from fmt's source: count such statements apart). THE CARD IS WHAT COUNTS. Prove the row's statement (the work); the ties are given (YteoohihaibgplaaDoorTie.lean); close each card by the builder's one call (the guide's Derived/Test/ToyasCard.lean, 'card_holds'). Laid BY PROGRAM, IN A SANDBOX (cutbox-door.mjs). By AI agents, Wed Nov 11 2026. No macro, syntax, notation, axiom, sorry.
-/
import Derived.Test.YteoohihaibgplaaDoorRows
import GoSem.ClaimSeven
namespace Go.Proofs.YteoohihaibgplaaDoor
namespace Rows

/-- THE TIED CARD OF 'regraterlaw15.ExprShown'. -/
def exprShownCard : Claim7 := { stood := { row := exprShownRow, standIns := [], harness := (true, "972a9915d35c8b4cf885d2105397b399ad5163eca2ce6d115d2fdd0a82efb032"), looks := true }, kinds := [], alts := [], laidByText := true, laidKinds := [.data, .data, .data, .data, .data, .data, .pinned], laidTests := true, laidLooks := .later }
def ExprShownCardSaid : Prop := Claim7.holds Tryd.pinned (.plain (OpenSpec.ofChange exprShownSpec)) exprShownCard

/-- THE TIED CARD OF 'regraterlaw15.ExprTells'. -/
def exprTellsCard : Claim7 := { stood := { row := exprTellsRow, standIns := [], harness := (true, "972a9915d35c8b4cf885d2105397b399ad5163eca2ce6d115d2fdd0a82efb032"), looks := true }, kinds := [], alts := [], laidByText := true, laidKinds := [.data, .data, .data, .data, .data, .data, .pinned], laidTests := true, laidLooks := .later }
def ExprTellsCardSaid : Prop := Claim7.holds Tryd.pinned (.plain (OpenSpec.ofChange exprTellsSpec)) exprTellsCard

/-- THE TIED CARD OF 'regraterlaw14.LexNames'. -/
def lexNamesCard : Claim7 := { stood := { row := lexNamesRow, standIns := [], harness := (true, "972a9915d35c8b4cf885d2105397b399ad5163eca2ce6d115d2fdd0a82efb032"), looks := true }, kinds := [], alts := [], laidByText := true, laidKinds := [.data, .data, .data, .sentinel, .sentinel, .data], laidTests := true, laidLooks := .later }
def LexNamesCardSaid : Prop := Claim7.holds Tryd.pinned (.plain (OpenSpec.ofChange lexNamesSpec)) lexNamesCard

/-- THE TIED CARD OF 'regraterlaw14.LexSplits'. -/
def lexSplitsCard : Claim7 := { stood := { row := lexSplitsRow, standIns := [], harness := (true, "972a9915d35c8b4cf885d2105397b399ad5163eca2ce6d115d2fdd0a82efb032"), looks := true }, kinds := [], alts := [], laidByText := true, laidKinds := [.data, .data, .data, .data, .sentinel, .sentinel, .data, .pinned], laidTests := true, laidLooks := .later }
def LexSplitsCardSaid : Prop := Claim7.holds Tryd.pinned (.plain (OpenSpec.ofChange lexSplitsSpec)) lexSplitsCard

/-- THE SECOND FORM's CARD OF 'regraterlaw15.ExprShown'. -/
def exprShownUptoCard : Claim7 := { stood := { row := exprShownUptoRow, standIns := [], harness := (true, "972a9915d35c8b4cf885d2105397b399ad5163eca2ce6d115d2fdd0a82efb032"), looks := true }, kinds := [], alts := [], laidByText := true, laidKinds := [.data, .data, .data, .data, .data, .data, .pinned], laidTests := true, laidLooks := .later }
def ExprShownUptoCardSaid : Prop := Claim7.holds Tryd.pinned (.plain (OpenSpec.upto exprShownSpec)) exprShownUptoCard

/-- THE SECOND FORM's CARD OF 'regraterlaw15.ExprTells'. -/
def exprTellsUptoCard : Claim7 := { stood := { row := exprTellsUptoRow, standIns := [], harness := (true, "972a9915d35c8b4cf885d2105397b399ad5163eca2ce6d115d2fdd0a82efb032"), looks := true }, kinds := [], alts := [], laidByText := true, laidKinds := [.data, .data, .data, .data, .data, .data, .pinned], laidTests := true, laidLooks := .later }
def ExprTellsUptoCardSaid : Prop := Claim7.holds Tryd.pinned (.plain (OpenSpec.upto exprTellsSpec)) exprTellsUptoCard

/-- THE SECOND FORM's CARD OF 'regraterlaw14.LexNames'. -/
def lexNamesUptoCard : Claim7 := { stood := { row := lexNamesUptoRow, standIns := [], harness := (true, "972a9915d35c8b4cf885d2105397b399ad5163eca2ce6d115d2fdd0a82efb032"), looks := true }, kinds := [], alts := [], laidByText := true, laidKinds := [.data, .data, .data, .sentinel, .sentinel, .data], laidTests := true, laidLooks := .later }
def LexNamesUptoCardSaid : Prop := Claim7.holds Tryd.pinned (.plain (OpenSpec.upto lexNamesSpec)) lexNamesUptoCard

/-- THE SECOND FORM's CARD OF 'regraterlaw14.LexSplits'. -/
def lexSplitsUptoCard : Claim7 := { stood := { row := lexSplitsUptoRow, standIns := [], harness := (true, "972a9915d35c8b4cf885d2105397b399ad5163eca2ce6d115d2fdd0a82efb032"), looks := true }, kinds := [], alts := [], laidByText := true, laidKinds := [.data, .data, .data, .data, .sentinel, .sentinel, .data, .pinned], laidTests := true, laidLooks := .later }
def LexSplitsUptoCardSaid : Prop := Claim7.holds Tryd.pinned (.plain (OpenSpec.upto lexSplitsSpec)) lexSplitsUptoCard
end Rows
end Go.Proofs.YteoohihaibgplaaDoor
