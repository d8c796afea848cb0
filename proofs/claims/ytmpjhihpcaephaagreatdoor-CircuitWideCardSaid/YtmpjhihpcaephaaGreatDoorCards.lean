/-
  DERIVED. GIVEN WITH THE SEED: THE CARDS: each row of YtmpjhihpcaephaaGreatDoorRows.lean that lists a variable, with what it lists TIED to the program's text (the seventh form; the later family's looks); each row that meets fmt, with fmt's text TOLD by the authors' own Lean function (tested against real Go, not proved from fmt's source: count such statements apart). THE CARD IS WHAT COUNTS. Prove the row's statement (the work); the ties are given (YtmpjhihpcaephaaGreatDoorTie.lean); close each card by the builder's one call (the guide's Derived/Test/ToyasCard.lean, 'card_holds'). Laid BY PROGRAM, IN A SANDBOX (cutbox-door.mjs). By AI agents, Wed Nov 11 2026. No macro, syntax, notation, axiom, sorry.
-/
import Derived.Test.YtmpjhihpcaephaaGreatDoorRows
import GoSem.ClaimSeven
namespace Go.Proofs.YtmpjhihpcaephaaGreatDoor
namespace Rows

/-- THE TIED CARD OF 'parterrelaw04.CircuitWide'. -/
def circuitWideCard : Claim7 := { stood := { row := circuitWideRow, standIns := [], harness := (true, "449b7f2a1fc6d1afa0b9a488a596f91e5595f72c7083210517a8de95aa655519"), looks := true }, kinds := [], alts := [], laidByText := true, laidKinds := [.data, .data, .data, .sentinel, .sentinel], laidTests := true, laidLooks := .later }
def CircuitWideCardSaid : Prop := Claim7.holds Tryz.pinned (.plain (OpenSpec.ofChange circuitWideSpec)) circuitWideCard

/-- THE TIED CARD OF 'parterrelaw10.BaseAny'. -/
def baseAnyCard : Claim7 := { stood := { row := baseAnyRow, standIns := [], harness := (true, "449b7f2a1fc6d1afa0b9a488a596f91e5595f72c7083210517a8de95aa655519"), looks := true }, kinds := [], alts := [], laidByText := true, laidKinds := [.data, .data, .data, .sentinel, .sentinel], laidTests := true, laidLooks := .later }
def BaseAnyCardSaid : Prop := Claim7.holds Tryz.pinned (.plain (OpenSpec.ofChange baseAnySpec)) baseAnyCard

/-- THE TIED CARD OF 'parterrelaw10.BaseMade'. -/
def baseMadeCard : Claim7 := { stood := { row := baseMadeRow, standIns := [], harness := (true, "449b7f2a1fc6d1afa0b9a488a596f91e5595f72c7083210517a8de95aa655519"), looks := true }, kinds := [], alts := [], laidByText := true, laidKinds := [.data, .data, .data, .sentinel, .sentinel], laidTests := true, laidLooks := .later }
def BaseMadeCardSaid : Prop := Claim7.holds Tryz.pinned (.plain (OpenSpec.ofChange baseMadeSpec)) baseMadeCard

/-- THE TIED CARD OF 'parterrelaw10.BaseOdd'. -/
def baseOddCard : Claim7 := { stood := { row := baseOddRow, standIns := [], harness := (true, "449b7f2a1fc6d1afa0b9a488a596f91e5595f72c7083210517a8de95aa655519"), looks := true }, kinds := [], alts := [], laidByText := true, laidKinds := [.data, .data, .data, .sentinel, .sentinel], laidTests := true, laidLooks := .later }
def BaseOddCardSaid : Prop := Claim7.holds Tryz.pinned (.plain (OpenSpec.ofChange baseOddSpec)) baseOddCard

/-- THE TIED CARD OF 'parterrelaw10.BaseFew'. -/
def baseFewCard : Claim7 := { stood := { row := baseFewRow, standIns := [], harness := (true, "449b7f2a1fc6d1afa0b9a488a596f91e5595f72c7083210517a8de95aa655519"), looks := true }, kinds := [], alts := [], laidByText := true, laidKinds := [.data, .data, .data, .sentinel, .sentinel], laidTests := true, laidLooks := .later }
def BaseFewCardSaid : Prop := Claim7.holds Tryz.pinned (.plain (OpenSpec.ofChange baseFewSpec)) baseFewCard

/-- THE SECOND FORM's CARD OF 'parterrelaw04.CircuitWide'. -/
def circuitWideUptoCard : Claim7 := { stood := { row := circuitWideUptoRow, standIns := [], harness := (true, "449b7f2a1fc6d1afa0b9a488a596f91e5595f72c7083210517a8de95aa655519"), looks := true }, kinds := [], alts := [], laidByText := true, laidKinds := [.data, .data, .data, .sentinel, .sentinel], laidTests := true, laidLooks := .later }
def CircuitWideUptoCardSaid : Prop := Claim7.holds Tryz.pinned (.plain (OpenSpec.upto circuitWideSpec)) circuitWideUptoCard

/-- THE SECOND FORM's CARD OF 'parterrelaw10.BaseAny'. -/
def baseAnyUptoCard : Claim7 := { stood := { row := baseAnyUptoRow, standIns := [], harness := (true, "449b7f2a1fc6d1afa0b9a488a596f91e5595f72c7083210517a8de95aa655519"), looks := true }, kinds := [], alts := [], laidByText := true, laidKinds := [.data, .data, .data, .sentinel, .sentinel], laidTests := true, laidLooks := .later }
def BaseAnyUptoCardSaid : Prop := Claim7.holds Tryz.pinned (.plain (OpenSpec.upto baseAnySpec)) baseAnyUptoCard

/-- THE SECOND FORM's CARD OF 'parterrelaw10.BaseMade'. -/
def baseMadeUptoCard : Claim7 := { stood := { row := baseMadeUptoRow, standIns := [], harness := (true, "449b7f2a1fc6d1afa0b9a488a596f91e5595f72c7083210517a8de95aa655519"), looks := true }, kinds := [], alts := [], laidByText := true, laidKinds := [.data, .data, .data, .sentinel, .sentinel], laidTests := true, laidLooks := .later }
def BaseMadeUptoCardSaid : Prop := Claim7.holds Tryz.pinned (.plain (OpenSpec.upto baseMadeSpec)) baseMadeUptoCard

/-- THE SECOND FORM's CARD OF 'parterrelaw10.BaseOdd'. -/
def baseOddUptoCard : Claim7 := { stood := { row := baseOddUptoRow, standIns := [], harness := (true, "449b7f2a1fc6d1afa0b9a488a596f91e5595f72c7083210517a8de95aa655519"), looks := true }, kinds := [], alts := [], laidByText := true, laidKinds := [.data, .data, .data, .sentinel, .sentinel], laidTests := true, laidLooks := .later }
def BaseOddUptoCardSaid : Prop := Claim7.holds Tryz.pinned (.plain (OpenSpec.upto baseOddSpec)) baseOddUptoCard

/-- THE SECOND FORM's CARD OF 'parterrelaw10.BaseFew'. -/
def baseFewUptoCard : Claim7 := { stood := { row := baseFewUptoRow, standIns := [], harness := (true, "449b7f2a1fc6d1afa0b9a488a596f91e5595f72c7083210517a8de95aa655519"), looks := true }, kinds := [], alts := [], laidByText := true, laidKinds := [.data, .data, .data, .sentinel, .sentinel], laidTests := true, laidLooks := .later }
def BaseFewUptoCardSaid : Prop := Claim7.holds Tryz.pinned (.plain (OpenSpec.upto baseFewSpec)) baseFewUptoCard
end Rows
end Go.Proofs.YtmpjhihpcaephaaGreatDoor
