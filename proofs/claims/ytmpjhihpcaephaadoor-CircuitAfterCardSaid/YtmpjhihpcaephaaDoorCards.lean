/-
  DERIVED. GIVEN WITH THE SEED: THE CARDS: each row of YtmpjhihpcaephaaDoorRows.lean that lists a variable, with what it lists TIED to the program's text (the seventh form; the later family's looks); each row that meets fmt, with fmt's text TOLD by the authors' own Lean function (tested against real Go, not proved from fmt's source: count such statements apart). THE CARD IS WHAT COUNTS. Prove the row's statement (the work); the ties are given (YtmpjhihpcaephaaDoorTie.lean); close each card by the builder's one call (the guide's Derived/Test/ToyasCard.lean, 'card_holds'). Laid BY PROGRAM, IN A SANDBOX (cutbox-door.mjs). By AI agents, Wed Nov 11 2026. No macro, syntax, notation, axiom, sorry.
-/
import Derived.Test.YtmpjhihpcaephaaDoorRows
import GoSem.ClaimSeven
namespace Go.Proofs.YtmpjhihpcaephaaDoor
namespace Rows

/-- THE TIED CARD OF 'parterrelaw04.CircuitNames'. -/
def circuitNamesCard : Claim7 := { stood := { row := circuitNamesRow, standIns := [], harness := (true, "5cd062f278dc09e491652d6087c7f10ea26c052400862c63fe807fe9448dc16d"), looks := true }, kinds := [], alts := [], laidByText := true, laidKinds := [.data, .data, .data, .sentinel, .sentinel], laidTests := true, laidLooks := .later }
def CircuitNamesCardSaid : Prop := Claim7.holds Tryd.pinned (.plain (OpenSpec.ofChange circuitNamesSpec)) circuitNamesCard

/-- THE TIED CARD OF 'parterrelaw04.CircuitAfter'. -/
def circuitAfterCard : Claim7 := { stood := { row := circuitAfterRow, standIns := [], harness := (true, "5cd062f278dc09e491652d6087c7f10ea26c052400862c63fe807fe9448dc16d"), looks := true }, kinds := [], alts := [], laidByText := true, laidKinds := [.data, .data, .data, .sentinel, .sentinel], laidTests := true, laidLooks := .later }
def CircuitAfterCardSaid : Prop := Claim7.holds Tryd.pinned (.plain (OpenSpec.ofChange circuitAfterSpec)) circuitAfterCard

/-- THE SECOND FORM's CARD OF 'parterrelaw04.CircuitNames'. -/
def circuitNamesUptoCard : Claim7 := { stood := { row := circuitNamesUptoRow, standIns := [], harness := (true, "5cd062f278dc09e491652d6087c7f10ea26c052400862c63fe807fe9448dc16d"), looks := true }, kinds := [], alts := [], laidByText := true, laidKinds := [.data, .data, .data, .sentinel, .sentinel], laidTests := true, laidLooks := .later }
def CircuitNamesUptoCardSaid : Prop := Claim7.holds Tryd.pinned (.plain (OpenSpec.upto circuitNamesSpec)) circuitNamesUptoCard

/-- THE SECOND FORM's CARD OF 'parterrelaw04.CircuitAfter'. -/
def circuitAfterUptoCard : Claim7 := { stood := { row := circuitAfterUptoRow, standIns := [], harness := (true, "5cd062f278dc09e491652d6087c7f10ea26c052400862c63fe807fe9448dc16d"), looks := true }, kinds := [], alts := [], laidByText := true, laidKinds := [.data, .data, .data, .sentinel, .sentinel], laidTests := true, laidLooks := .later }
def CircuitAfterUptoCardSaid : Prop := Claim7.holds Tryd.pinned (.plain (OpenSpec.upto circuitAfterSpec)) circuitAfterUptoCard
end Rows
end Go.Proofs.YtmpjhihpcaephaaDoor
