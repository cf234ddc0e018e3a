/-
  DERIVED. GIVEN WITH THE SEED: THE CARDS: each row of YtkmehmgocelkiaaDoorRows.lean that lists a variable, with what it lists TIED to the program's text (the seventh form; the later family's looks); each row that meets fmt, with fmt's text TOLD by the authors' own Lean function (tested against real Go, not proved from fmt's source: count such statements apart). THE CARD IS WHAT COUNTS. Prove the row's statement (the work); the ties are given (YtkmehmgocelkiaaDoorTie.lean); close each card by the builder's one call (the guide's Derived/Test/ToyasCard.lean, 'card_holds'). Laid BY PROGRAM, IN A SANDBOX (cutbox-door.mjs). By AI agents, Wed Nov 11 2026. No macro, syntax, notation, axiom, sorry.
-/
import Derived.Test.YtkmehmgocelkiaaDoorRows
import GoSem.ClaimSeven
namespace Go.Proofs.YtkmehmgocelkiaaDoor
namespace Rows

/-- THE TIED CARD OF 'regraterlaw06.ValueDoes'. -/
def valueDoesCard : Claim7 := { stood := { row := valueDoesRow, standIns := [], harness := (true, "47a6693efed7b260f8b2d9328edd444d01aec7d71f88fd7fd44a1d785472f1c2"), looks := false }, kinds := [], alts := [], laidByText := true, laidKinds := [.data, .data, .data, .data, .pinned], laidTests := true, laidLooks := .later }
def ValueDoesCardSaid : Prop := Claim7.holds Tryd.pinned (.plain (OpenSpec.ofChange valueDoesSpec)) valueDoesCard

/-- THE TIED CARD OF 'regraterlaw06.ValueOrders'. -/
def valueOrdersCard : Claim7 := { stood := { row := valueOrdersRow, standIns := [], harness := (true, "47a6693efed7b260f8b2d9328edd444d01aec7d71f88fd7fd44a1d785472f1c2"), looks := false }, kinds := [], alts := [], laidByText := true, laidKinds := [.data, .data, .data, .data, .pinned], laidTests := true, laidLooks := .later }
def ValueOrdersCardSaid : Prop := Claim7.holds Tryd.pinned (.plain (OpenSpec.ofChange valueOrdersSpec)) valueOrdersCard

/-- THE TIED CARD OF 'regraterlaw06.ValueLaws'. -/
def valueLawsCard : Claim7 := { stood := { row := valueLawsRow, standIns := [], harness := (true, "47a6693efed7b260f8b2d9328edd444d01aec7d71f88fd7fd44a1d785472f1c2"), looks := false }, kinds := [], alts := [], laidByText := true, laidKinds := [.data, .data, .data, .data, .pinned], laidTests := true, laidLooks := .later }
def ValueLawsCardSaid : Prop := Claim7.holds Tryd.pinned (.plain (OpenSpec.ofChange valueLawsSpec)) valueLawsCard

/-- THE TIED CARD OF 'regraterlaw06.ValueOnes'. -/
def valueOnesCard : Claim7 := { stood := { row := valueOnesRow, standIns := [], harness := (true, "47a6693efed7b260f8b2d9328edd444d01aec7d71f88fd7fd44a1d785472f1c2"), looks := false }, kinds := [], alts := [], laidByText := true, laidKinds := [.data, .data, .data, .data, .pinned], laidTests := true, laidLooks := .later }
def ValueOnesCardSaid : Prop := Claim7.holds Tryd.pinned (.plain (OpenSpec.ofChange valueOnesSpec)) valueOnesCard

/-- THE TIED CARD OF 'regraterlaw07.RowKeys'. -/
def rowKeysCard : Claim7 := { stood := { row := rowKeysRow, standIns := [], harness := (true, "47a6693efed7b260f8b2d9328edd444d01aec7d71f88fd7fd44a1d785472f1c2"), looks := false }, kinds := [], alts := [], laidByText := true, laidKinds := [.data, .data, .data, .data, .pinned], laidTests := true, laidLooks := .later }
def RowKeysCardSaid : Prop := Claim7.holds Tryd.pinned (.plain (OpenSpec.ofChange rowKeysSpec)) rowKeysCard

/-- THE TIED CARD OF 'regraterlaw07.RowReads'. -/
def rowReadsCard : Claim7 := { stood := { row := rowReadsRow, standIns := [], harness := (true, "47a6693efed7b260f8b2d9328edd444d01aec7d71f88fd7fd44a1d785472f1c2"), looks := false }, kinds := [], alts := [], laidByText := true, laidKinds := [.data, .data, .data, .data, .pinned], laidTests := true, laidLooks := .later }
def RowReadsCardSaid : Prop := Claim7.holds Tryd.pinned (.plain (OpenSpec.ofChange rowReadsSpec)) rowReadsCard

/-- THE TIED CARD OF 'regraterlaw07.RowOrders'. -/
def rowOrdersCard : Claim7 := { stood := { row := rowOrdersRow, standIns := [], harness := (true, "47a6693efed7b260f8b2d9328edd444d01aec7d71f88fd7fd44a1d785472f1c2"), looks := false }, kinds := [], alts := [], laidByText := true, laidKinds := [.data, .data, .data, .data, .pinned], laidTests := true, laidLooks := .later }
def RowOrdersCardSaid : Prop := Claim7.holds Tryd.pinned (.plain (OpenSpec.ofChange rowOrdersSpec)) rowOrdersCard

/-- THE SECOND FORM's CARD OF 'regraterlaw06.ValueDoes'. -/
def valueDoesUptoCard : Claim7 := { stood := { row := valueDoesUptoRow, standIns := [], harness := (true, "47a6693efed7b260f8b2d9328edd444d01aec7d71f88fd7fd44a1d785472f1c2"), looks := false }, kinds := [], alts := [], laidByText := true, laidKinds := [.data, .data, .data, .data, .pinned], laidTests := true, laidLooks := .later }
def ValueDoesUptoCardSaid : Prop := Claim7.holds Tryd.pinned (.plain (OpenSpec.upto valueDoesSpec)) valueDoesUptoCard

/-- THE SECOND FORM's CARD OF 'regraterlaw06.ValueOrders'. -/
def valueOrdersUptoCard : Claim7 := { stood := { row := valueOrdersUptoRow, standIns := [], harness := (true, "47a6693efed7b260f8b2d9328edd444d01aec7d71f88fd7fd44a1d785472f1c2"), looks := false }, kinds := [], alts := [], laidByText := true, laidKinds := [.data, .data, .data, .data, .pinned], laidTests := true, laidLooks := .later }
def ValueOrdersUptoCardSaid : Prop := Claim7.holds Tryd.pinned (.plain (OpenSpec.upto valueOrdersSpec)) valueOrdersUptoCard

/-- THE SECOND FORM's CARD OF 'regraterlaw06.ValueLaws'. -/
def valueLawsUptoCard : Claim7 := { stood := { row := valueLawsUptoRow, standIns := [], harness := (true, "47a6693efed7b260f8b2d9328edd444d01aec7d71f88fd7fd44a1d785472f1c2"), looks := false }, kinds := [], alts := [], laidByText := true, laidKinds := [.data, .data, .data, .data, .pinned], laidTests := true, laidLooks := .later }
def ValueLawsUptoCardSaid : Prop := Claim7.holds Tryd.pinned (.plain (OpenSpec.upto valueLawsSpec)) valueLawsUptoCard

/-- THE SECOND FORM's CARD OF 'regraterlaw06.ValueOnes'. -/
def valueOnesUptoCard : Claim7 := { stood := { row := valueOnesUptoRow, standIns := [], harness := (true, "47a6693efed7b260f8b2d9328edd444d01aec7d71f88fd7fd44a1d785472f1c2"), looks := false }, kinds := [], alts := [], laidByText := true, laidKinds := [.data, .data, .data, .data, .pinned], laidTests := true, laidLooks := .later }
def ValueOnesUptoCardSaid : Prop := Claim7.holds Tryd.pinned (.plain (OpenSpec.upto valueOnesSpec)) valueOnesUptoCard

/-- THE SECOND FORM's CARD OF 'regraterlaw07.RowKeys'. -/
def rowKeysUptoCard : Claim7 := { stood := { row := rowKeysUptoRow, standIns := [], harness := (true, "47a6693efed7b260f8b2d9328edd444d01aec7d71f88fd7fd44a1d785472f1c2"), looks := false }, kinds := [], alts := [], laidByText := true, laidKinds := [.data, .data, .data, .data, .pinned], laidTests := true, laidLooks := .later }
def RowKeysUptoCardSaid : Prop := Claim7.holds Tryd.pinned (.plain (OpenSpec.upto rowKeysSpec)) rowKeysUptoCard

/-- THE SECOND FORM's CARD OF 'regraterlaw07.RowReads'. -/
def rowReadsUptoCard : Claim7 := { stood := { row := rowReadsUptoRow, standIns := [], harness := (true, "47a6693efed7b260f8b2d9328edd444d01aec7d71f88fd7fd44a1d785472f1c2"), looks := false }, kinds := [], alts := [], laidByText := true, laidKinds := [.data, .data, .data, .data, .pinned], laidTests := true, laidLooks := .later }
def RowReadsUptoCardSaid : Prop := Claim7.holds Tryd.pinned (.plain (OpenSpec.upto rowReadsSpec)) rowReadsUptoCard

/-- THE SECOND FORM's CARD OF 'regraterlaw07.RowOrders'. -/
def rowOrdersUptoCard : Claim7 := { stood := { row := rowOrdersUptoRow, standIns := [], harness := (true, "47a6693efed7b260f8b2d9328edd444d01aec7d71f88fd7fd44a1d785472f1c2"), looks := false }, kinds := [], alts := [], laidByText := true, laidKinds := [.data, .data, .data, .data, .pinned], laidTests := true, laidLooks := .later }
def RowOrdersUptoCardSaid : Prop := Claim7.holds Tryd.pinned (.plain (OpenSpec.upto rowOrdersSpec)) rowOrdersUptoCard
end Rows
end Go.Proofs.YtkmehmgocelkiaaDoor
