/-
  DERIVED. GIVEN WITH THE SEED: THE CARDS: each row of YtodfhmmjemlmeaaGreatDoorRows.lean that lists a variable, with what it lists TIED to the program's text (the seventh form; the later family's looks); each row that meets fmt, with fmt's text TOLD by the authors' own Lean function (tested against real Go, not proved from fmt's source: count such statements apart). THE CARD IS WHAT COUNTS. Prove the row's statement (the work); the ties are given (YtodfhmmjemlmeaaGreatDoorTie.lean); close each card by the builder's one call (the guide's Derived/Test/ToyasCard.lean, 'card_holds'). Laid BY PROGRAM, IN A SANDBOX (cutbox-door.mjs). By AI agents, Wed Nov 11 2026. No macro, syntax, notation, axiom, sorry.
-/
import Derived.Test.YtodfhmmjemlmeaaGreatDoorRows
import GoSem.ClaimSeven
namespace Go.Proofs.YtodfhmmjemlmeaaGreatDoor
namespace Rows

/-- THE TIED CARD OF 'parterrelaw05.AagParse'. -/
def aagParseCard : Claim7 := { stood := { row := aagParseRow, standIns := [], harness := (true, "628d1401c20187621dd91b5f2c269353a4710ad22b7406ff7c78dc004b083077"), looks := true }, kinds := [], alts := [], laidByText := true, laidKinds := [.data, .data, .data, .data, .sentinel, .sentinel, .pinned], laidTests := true, laidLooks := .later }
def AagParseCardSaid : Prop := Claim7.holds Tryz.pinned (.plain (OpenSpec.ofChange aagParseSpec)) aagParseCard

/-- THE TIED CARD OF 'parterrelaw05.AagPrint'. -/
def aagPrintCard : Claim7 := { stood := { row := aagPrintRow, standIns := [], harness := (true, "628d1401c20187621dd91b5f2c269353a4710ad22b7406ff7c78dc004b083077"), looks := true }, kinds := [], alts := [], laidByText := true, laidKinds := [.data, .data, .data, .data, .sentinel, .sentinel, .pinned], laidTests := true, laidLooks := .later }
def AagPrintCardSaid : Prop := Claim7.holds Tryz.pinned (.plain (OpenSpec.ofChange aagPrintSpec)) aagPrintCard

/-- THE TIED CARD OF 'parterrelaw05.AagMade'. -/
def aagMadeCard : Claim7 := { stood := { row := aagMadeRow, standIns := [], harness := (true, "628d1401c20187621dd91b5f2c269353a4710ad22b7406ff7c78dc004b083077"), looks := true }, kinds := [], alts := [], laidByText := true, laidKinds := [.data, .data, .data, .data, .sentinel, .sentinel, .pinned], laidTests := true, laidLooks := .later }
def AagMadeCardSaid : Prop := Claim7.holds Tryz.pinned (.plain (OpenSpec.ofChange aagMadeSpec)) aagMadeCard

/-- THE TIED CARD OF 'parterrelaw05.AagSmall'. -/
def aagSmallCard : Claim7 := { stood := { row := aagSmallRow, standIns := [], harness := (true, "628d1401c20187621dd91b5f2c269353a4710ad22b7406ff7c78dc004b083077"), looks := true }, kinds := [], alts := [], laidByText := true, laidKinds := [.data, .data, .data, .data, .sentinel, .sentinel, .pinned], laidTests := true, laidLooks := .later }
def AagSmallCardSaid : Prop := Claim7.holds Tryz.pinned (.plain (OpenSpec.ofChange aagSmallSpec)) aagSmallCard

/-- THE TIED CARD OF 'parterrelaw05.AagSpoilt'. -/
def aagSpoiltCard : Claim7 := { stood := { row := aagSpoiltRow, standIns := [], harness := (true, "628d1401c20187621dd91b5f2c269353a4710ad22b7406ff7c78dc004b083077"), looks := true }, kinds := [], alts := [], laidByText := true, laidKinds := [.data, .data, .data, .data, .sentinel, .sentinel, .pinned], laidTests := true, laidLooks := .later }
def AagSpoiltCardSaid : Prop := Claim7.holds Tryz.pinned (.plain (OpenSpec.ofChange aagSpoiltSpec)) aagSpoiltCard

/-- THE TIED CARD OF 'parterrelaw05.AagBack'. -/
def aagBackCard : Claim7 := { stood := { row := aagBackRow, standIns := [], harness := (true, "628d1401c20187621dd91b5f2c269353a4710ad22b7406ff7c78dc004b083077"), looks := true }, kinds := [], alts := [], laidByText := true, laidKinds := [.data, .data, .data, .data, .sentinel, .sentinel, .pinned], laidTests := true, laidLooks := .later }
def AagBackCardSaid : Prop := Claim7.holds Tryz.pinned (.plain (OpenSpec.ofChange aagBackSpec)) aagBackCard

/-- THE TIED CARD OF 'parterrelaw05.AagAgain'. -/
def aagAgainCard : Claim7 := { stood := { row := aagAgainRow, standIns := [], harness := (true, "628d1401c20187621dd91b5f2c269353a4710ad22b7406ff7c78dc004b083077"), looks := true }, kinds := [], alts := [], laidByText := true, laidKinds := [.data, .data, .data, .data, .sentinel, .sentinel, .pinned], laidTests := true, laidLooks := .later }
def AagAgainCardSaid : Prop := Claim7.holds Tryz.pinned (.plain (OpenSpec.ofChange aagAgainSpec)) aagAgainCard

/-- THE TIED CARD OF 'parterrelaw05.AagHead'. -/
def aagHeadCard : Claim7 := { stood := { row := aagHeadRow, standIns := [], harness := (true, "628d1401c20187621dd91b5f2c269353a4710ad22b7406ff7c78dc004b083077"), looks := true }, kinds := [], alts := [], laidByText := true, laidKinds := [.data, .data, .data, .data, .sentinel, .sentinel, .pinned], laidTests := true, laidLooks := .later }
def AagHeadCardSaid : Prop := Claim7.holds Tryz.pinned (.plain (OpenSpec.ofChange aagHeadSpec)) aagHeadCard

/-- THE TIED CARD OF 'parterrelaw06.BinaryParse'. -/
def binaryParseCard : Claim7 := { stood := { row := binaryParseRow, standIns := [], harness := (true, "628d1401c20187621dd91b5f2c269353a4710ad22b7406ff7c78dc004b083077"), looks := true }, kinds := [], alts := [], laidByText := true, laidKinds := [.data, .data, .data, .data, .sentinel, .sentinel, .pinned], laidTests := true, laidLooks := .later }
def BinaryParseCardSaid : Prop := Claim7.holds Tryz.pinned (.plain (OpenSpec.ofChange binaryParseSpec)) binaryParseCard

/-- THE TIED CARD OF 'parterrelaw06.BinaryMade'. -/
def binaryMadeCard : Claim7 := { stood := { row := binaryMadeRow, standIns := [], harness := (true, "628d1401c20187621dd91b5f2c269353a4710ad22b7406ff7c78dc004b083077"), looks := true }, kinds := [], alts := [], laidByText := true, laidKinds := [.data, .data, .data, .data, .sentinel, .sentinel, .pinned], laidTests := true, laidLooks := .later }
def BinaryMadeCardSaid : Prop := Claim7.holds Tryz.pinned (.plain (OpenSpec.ofChange binaryMadeSpec)) binaryMadeCard

/-- THE TIED CARD OF 'parterrelaw06.BinaryAny'. -/
def binaryAnyCard : Claim7 := { stood := { row := binaryAnyRow, standIns := [], harness := (true, "628d1401c20187621dd91b5f2c269353a4710ad22b7406ff7c78dc004b083077"), looks := true }, kinds := [], alts := [], laidByText := true, laidKinds := [.data, .data, .data, .data, .sentinel, .sentinel, .pinned], laidTests := true, laidLooks := .later }
def BinaryAnyCardSaid : Prop := Claim7.holds Tryz.pinned (.plain (OpenSpec.ofChange binaryAnySpec)) binaryAnyCard

/-- THE TIED CARD OF 'parterrelaw06.BinaryDeltas'. -/
def binaryDeltasCard : Claim7 := { stood := { row := binaryDeltasRow, standIns := [], harness := (true, "628d1401c20187621dd91b5f2c269353a4710ad22b7406ff7c78dc004b083077"), looks := true }, kinds := [], alts := [], laidByText := true, laidKinds := [.data, .data, .data, .data, .sentinel, .sentinel, .pinned], laidTests := true, laidLooks := .later }
def BinaryDeltasCardSaid : Prop := Claim7.holds Tryz.pinned (.plain (OpenSpec.ofChange binaryDeltasSpec)) binaryDeltasCard

/-- THE TIED CARD OF 'parterrelaw06.BinarySpoilt'. -/
def binarySpoiltCard : Claim7 := { stood := { row := binarySpoiltRow, standIns := [], harness := (true, "628d1401c20187621dd91b5f2c269353a4710ad22b7406ff7c78dc004b083077"), looks := true }, kinds := [], alts := [], laidByText := true, laidKinds := [.data, .data, .data, .data, .sentinel, .sentinel, .pinned], laidTests := true, laidLooks := .later }
def BinarySpoiltCardSaid : Prop := Claim7.holds Tryz.pinned (.plain (OpenSpec.ofChange binarySpoiltSpec)) binarySpoiltCard

/-- THE TIED CARD OF 'parterrelaw06.BinaryShort'. -/
def binaryShortCard : Claim7 := { stood := { row := binaryShortRow, standIns := [], harness := (true, "628d1401c20187621dd91b5f2c269353a4710ad22b7406ff7c78dc004b083077"), looks := true }, kinds := [], alts := [], laidByText := true, laidKinds := [.data, .data, .data, .data, .sentinel, .sentinel, .pinned], laidTests := true, laidLooks := .later }
def BinaryShortCardSaid : Prop := Claim7.holds Tryz.pinned (.plain (OpenSpec.ofChange binaryShortSpec)) binaryShortCard

/-- THE TIED CARD OF 'parterrelaw06.BinaryBack'. -/
def binaryBackCard : Claim7 := { stood := { row := binaryBackRow, standIns := [], harness := (true, "628d1401c20187621dd91b5f2c269353a4710ad22b7406ff7c78dc004b083077"), looks := true }, kinds := [], alts := [], laidByText := true, laidKinds := [.data, .data, .data, .data, .sentinel, .sentinel, .pinned], laidTests := true, laidLooks := .later }
def BinaryBackCardSaid : Prop := Claim7.holds Tryz.pinned (.plain (OpenSpec.ofChange binaryBackSpec)) binaryBackCard

/-- THE SECOND FORM's CARD OF 'parterrelaw05.AagParse'. -/
def aagParseUptoCard : Claim7 := { stood := { row := aagParseUptoRow, standIns := [], harness := (true, "628d1401c20187621dd91b5f2c269353a4710ad22b7406ff7c78dc004b083077"), looks := true }, kinds := [], alts := [], laidByText := true, laidKinds := [.data, .data, .data, .data, .sentinel, .sentinel, .pinned], laidTests := true, laidLooks := .later }
def AagParseUptoCardSaid : Prop := Claim7.holds Tryz.pinned (.plain (OpenSpec.upto aagParseSpec)) aagParseUptoCard

/-- THE SECOND FORM's CARD OF 'parterrelaw05.AagPrint'. -/
def aagPrintUptoCard : Claim7 := { stood := { row := aagPrintUptoRow, standIns := [], harness := (true, "628d1401c20187621dd91b5f2c269353a4710ad22b7406ff7c78dc004b083077"), looks := true }, kinds := [], alts := [], laidByText := true, laidKinds := [.data, .data, .data, .data, .sentinel, .sentinel, .pinned], laidTests := true, laidLooks := .later }
def AagPrintUptoCardSaid : Prop := Claim7.holds Tryz.pinned (.plain (OpenSpec.upto aagPrintSpec)) aagPrintUptoCard

/-- THE SECOND FORM's CARD OF 'parterrelaw05.AagMade'. -/
def aagMadeUptoCard : Claim7 := { stood := { row := aagMadeUptoRow, standIns := [], harness := (true, "628d1401c20187621dd91b5f2c269353a4710ad22b7406ff7c78dc004b083077"), looks := true }, kinds := [], alts := [], laidByText := true, laidKinds := [.data, .data, .data, .data, .sentinel, .sentinel, .pinned], laidTests := true, laidLooks := .later }
def AagMadeUptoCardSaid : Prop := Claim7.holds Tryz.pinned (.plain (OpenSpec.upto aagMadeSpec)) aagMadeUptoCard

/-- THE SECOND FORM's CARD OF 'parterrelaw05.AagSmall'. -/
def aagSmallUptoCard : Claim7 := { stood := { row := aagSmallUptoRow, standIns := [], harness := (true, "628d1401c20187621dd91b5f2c269353a4710ad22b7406ff7c78dc004b083077"), looks := true }, kinds := [], alts := [], laidByText := true, laidKinds := [.data, .data, .data, .data, .sentinel, .sentinel, .pinned], laidTests := true, laidLooks := .later }
def AagSmallUptoCardSaid : Prop := Claim7.holds Tryz.pinned (.plain (OpenSpec.upto aagSmallSpec)) aagSmallUptoCard

/-- THE SECOND FORM's CARD OF 'parterrelaw05.AagSpoilt'. -/
def aagSpoiltUptoCard : Claim7 := { stood := { row := aagSpoiltUptoRow, standIns := [], harness := (true, "628d1401c20187621dd91b5f2c269353a4710ad22b7406ff7c78dc004b083077"), looks := true }, kinds := [], alts := [], laidByText := true, laidKinds := [.data, .data, .data, .data, .sentinel, .sentinel, .pinned], laidTests := true, laidLooks := .later }
def AagSpoiltUptoCardSaid : Prop := Claim7.holds Tryz.pinned (.plain (OpenSpec.upto aagSpoiltSpec)) aagSpoiltUptoCard

/-- THE SECOND FORM's CARD OF 'parterrelaw05.AagBack'. -/
def aagBackUptoCard : Claim7 := { stood := { row := aagBackUptoRow, standIns := [], harness := (true, "628d1401c20187621dd91b5f2c269353a4710ad22b7406ff7c78dc004b083077"), looks := true }, kinds := [], alts := [], laidByText := true, laidKinds := [.data, .data, .data, .data, .sentinel, .sentinel, .pinned], laidTests := true, laidLooks := .later }
def AagBackUptoCardSaid : Prop := Claim7.holds Tryz.pinned (.plain (OpenSpec.upto aagBackSpec)) aagBackUptoCard

/-- THE SECOND FORM's CARD OF 'parterrelaw05.AagAgain'. -/
def aagAgainUptoCard : Claim7 := { stood := { row := aagAgainUptoRow, standIns := [], harness := (true, "628d1401c20187621dd91b5f2c269353a4710ad22b7406ff7c78dc004b083077"), looks := true }, kinds := [], alts := [], laidByText := true, laidKinds := [.data, .data, .data, .data, .sentinel, .sentinel, .pinned], laidTests := true, laidLooks := .later }
def AagAgainUptoCardSaid : Prop := Claim7.holds Tryz.pinned (.plain (OpenSpec.upto aagAgainSpec)) aagAgainUptoCard

/-- THE SECOND FORM's CARD OF 'parterrelaw05.AagHead'. -/
def aagHeadUptoCard : Claim7 := { stood := { row := aagHeadUptoRow, standIns := [], harness := (true, "628d1401c20187621dd91b5f2c269353a4710ad22b7406ff7c78dc004b083077"), looks := true }, kinds := [], alts := [], laidByText := true, laidKinds := [.data, .data, .data, .data, .sentinel, .sentinel, .pinned], laidTests := true, laidLooks := .later }
def AagHeadUptoCardSaid : Prop := Claim7.holds Tryz.pinned (.plain (OpenSpec.upto aagHeadSpec)) aagHeadUptoCard

/-- THE SECOND FORM's CARD OF 'parterrelaw06.BinaryParse'. -/
def binaryParseUptoCard : Claim7 := { stood := { row := binaryParseUptoRow, standIns := [], harness := (true, "628d1401c20187621dd91b5f2c269353a4710ad22b7406ff7c78dc004b083077"), looks := true }, kinds := [], alts := [], laidByText := true, laidKinds := [.data, .data, .data, .data, .sentinel, .sentinel, .pinned], laidTests := true, laidLooks := .later }
def BinaryParseUptoCardSaid : Prop := Claim7.holds Tryz.pinned (.plain (OpenSpec.upto binaryParseSpec)) binaryParseUptoCard

/-- THE SECOND FORM's CARD OF 'parterrelaw06.BinaryMade'. -/
def binaryMadeUptoCard : Claim7 := { stood := { row := binaryMadeUptoRow, standIns := [], harness := (true, "628d1401c20187621dd91b5f2c269353a4710ad22b7406ff7c78dc004b083077"), looks := true }, kinds := [], alts := [], laidByText := true, laidKinds := [.data, .data, .data, .data, .sentinel, .sentinel, .pinned], laidTests := true, laidLooks := .later }
def BinaryMadeUptoCardSaid : Prop := Claim7.holds Tryz.pinned (.plain (OpenSpec.upto binaryMadeSpec)) binaryMadeUptoCard

/-- THE SECOND FORM's CARD OF 'parterrelaw06.BinaryAny'. -/
def binaryAnyUptoCard : Claim7 := { stood := { row := binaryAnyUptoRow, standIns := [], harness := (true, "628d1401c20187621dd91b5f2c269353a4710ad22b7406ff7c78dc004b083077"), looks := true }, kinds := [], alts := [], laidByText := true, laidKinds := [.data, .data, .data, .data, .sentinel, .sentinel, .pinned], laidTests := true, laidLooks := .later }
def BinaryAnyUptoCardSaid : Prop := Claim7.holds Tryz.pinned (.plain (OpenSpec.upto binaryAnySpec)) binaryAnyUptoCard

/-- THE SECOND FORM's CARD OF 'parterrelaw06.BinaryDeltas'. -/
def binaryDeltasUptoCard : Claim7 := { stood := { row := binaryDeltasUptoRow, standIns := [], harness := (true, "628d1401c20187621dd91b5f2c269353a4710ad22b7406ff7c78dc004b083077"), looks := true }, kinds := [], alts := [], laidByText := true, laidKinds := [.data, .data, .data, .data, .sentinel, .sentinel, .pinned], laidTests := true, laidLooks := .later }
def BinaryDeltasUptoCardSaid : Prop := Claim7.holds Tryz.pinned (.plain (OpenSpec.upto binaryDeltasSpec)) binaryDeltasUptoCard

/-- THE SECOND FORM's CARD OF 'parterrelaw06.BinarySpoilt'. -/
def binarySpoiltUptoCard : Claim7 := { stood := { row := binarySpoiltUptoRow, standIns := [], harness := (true, "628d1401c20187621dd91b5f2c269353a4710ad22b7406ff7c78dc004b083077"), looks := true }, kinds := [], alts := [], laidByText := true, laidKinds := [.data, .data, .data, .data, .sentinel, .sentinel, .pinned], laidTests := true, laidLooks := .later }
def BinarySpoiltUptoCardSaid : Prop := Claim7.holds Tryz.pinned (.plain (OpenSpec.upto binarySpoiltSpec)) binarySpoiltUptoCard

/-- THE SECOND FORM's CARD OF 'parterrelaw06.BinaryShort'. -/
def binaryShortUptoCard : Claim7 := { stood := { row := binaryShortUptoRow, standIns := [], harness := (true, "628d1401c20187621dd91b5f2c269353a4710ad22b7406ff7c78dc004b083077"), looks := true }, kinds := [], alts := [], laidByText := true, laidKinds := [.data, .data, .data, .data, .sentinel, .sentinel, .pinned], laidTests := true, laidLooks := .later }
def BinaryShortUptoCardSaid : Prop := Claim7.holds Tryz.pinned (.plain (OpenSpec.upto binaryShortSpec)) binaryShortUptoCard

/-- THE SECOND FORM's CARD OF 'parterrelaw06.BinaryBack'. -/
def binaryBackUptoCard : Claim7 := { stood := { row := binaryBackUptoRow, standIns := [], harness := (true, "628d1401c20187621dd91b5f2c269353a4710ad22b7406ff7c78dc004b083077"), looks := true }, kinds := [], alts := [], laidByText := true, laidKinds := [.data, .data, .data, .data, .sentinel, .sentinel, .pinned], laidTests := true, laidLooks := .later }
def BinaryBackUptoCardSaid : Prop := Claim7.holds Tryz.pinned (.plain (OpenSpec.upto binaryBackSpec)) binaryBackUptoCard
end Rows
end Go.Proofs.YtodfhmmjemlmeaaGreatDoor
