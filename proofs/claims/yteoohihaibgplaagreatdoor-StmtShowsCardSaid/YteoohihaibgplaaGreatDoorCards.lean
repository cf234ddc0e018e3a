/-
  DERIVED. GIVEN WITH THE SEED: THE CARDS: each row of YteoohihaibgplaaGreatDoorRows.lean that lists a variable, with what it lists TIED to the program's text (the seventh form; the later family's looks); each row that meets fmt, with fmt's text TOLD by the authors' own Lean function (tested against real Go, not proved from fmt's source: count such statements apart). THE CARD IS WHAT COUNTS. Prove the row's statement (the work); the ties are given (YteoohihaibgplaaGreatDoorTie.lean); close each card by the builder's one call (the guide's Derived/Test/ToyasCard.lean, 'card_holds'). Laid BY PROGRAM, IN A SANDBOX (cutbox-door.mjs). By AI agents, Wed Nov 11 2026. No macro, syntax, notation, axiom, sorry.
-/
import Derived.Test.YteoohihaibgplaaGreatDoorRows
import GoSem.ClaimSeven
namespace Go.Proofs.YteoohihaibgplaaGreatDoor
namespace Rows

/-- THE TIED CARD OF 'regraterlaw17.StmtShows'. -/
def stmtShowsCard : Claim7 := { stood := { row := stmtShowsRow, standIns := [], harness := (true, "22c5cefc29a5466d2be709355034d707b35a2d46b5445640e8f939e1ee1cdd04"), looks := false }, kinds := [], alts := [], laidByText := true, laidKinds := [.data, .data, .data, .data, .data, .data, .data, .pinned], laidTests := true, laidLooks := .later }
def StmtShowsCardSaid : Prop := Claim7.holds Tryz.pinned (.plain (OpenSpec.ofChange stmtShowsSpec)) stmtShowsCard

/-- THE SECOND FORM's CARD OF 'regraterlaw17.StmtShows'. -/
def stmtShowsUptoCard : Claim7 := { stood := { row := stmtShowsUptoRow, standIns := [], harness := (true, "22c5cefc29a5466d2be709355034d707b35a2d46b5445640e8f939e1ee1cdd04"), looks := false }, kinds := [], alts := [], laidByText := true, laidKinds := [.data, .data, .data, .data, .data, .data, .data, .pinned], laidTests := true, laidLooks := .later }
def StmtShowsUptoCardSaid : Prop := Claim7.holds Tryz.pinned (.plain (OpenSpec.upto stmtShowsSpec)) stmtShowsUptoCard
end Rows
end Go.Proofs.YteoohihaibgplaaGreatDoor
