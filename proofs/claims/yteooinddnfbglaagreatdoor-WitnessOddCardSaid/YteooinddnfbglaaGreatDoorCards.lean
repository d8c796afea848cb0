/-
  DERIVED. GIVEN WITH THE SEED: THE CARDS: each row of YteooinddnfbglaaGreatDoorRows.lean that lists a variable, with what it lists TIED to the program's text (the seventh form; the later family's looks); each row that meets fmt, with fmt's text TOLD by the authors' own Lean function (tested against real Go, not proved from fmt's source: count such statements apart). THE CARD IS WHAT COUNTS. Prove the row's statement (the work); the ties are given (YteooinddnfbglaaGreatDoorTie.lean); close each card by the builder's one call (the guide's Derived/Test/ToyasCard.lean, 'card_holds'). Laid BY PROGRAM, IN A SANDBOX (cutbox-door.mjs). By AI agents, Wed Nov 11 2026. No macro, syntax, notation, axiom, sorry.
-/
import Derived.Test.YteooinddnfbglaaGreatDoorRows
import GoSem.ClaimSeven
namespace Go.Proofs.YteooinddnfbglaaGreatDoor
namespace Rows

/-- THE TIED CARD OF 'parterrelaw21.WitnessOdd'. -/
def witnessOddCard : Claim7 := { stood := { row := witnessOddRow, standIns := [], harness := (true, "5169d83b206ea91ad5860175dac9a0c8dd3e8874131dfede1463aab18c9c2c01"), looks := false }, kinds := [], alts := [], laidByText := true, laidKinds := [.data, .data, .data], laidTests := true, laidLooks := .later }
def WitnessOddCardSaid : Prop := Claim7.holds Tryz.pinned (.plain (OpenSpec.ofChange witnessOddSpec)) witnessOddCard

/-- THE TIED CARD OF 'parterrelaw21.WitnessKinds'. -/
def witnessKindsCard : Claim7 := { stood := { row := witnessKindsRow, standIns := [], harness := (true, "5169d83b206ea91ad5860175dac9a0c8dd3e8874131dfede1463aab18c9c2c01"), looks := false }, kinds := [], alts := [], laidByText := true, laidKinds := [.data, .data, .data], laidTests := true, laidLooks := .later }
def WitnessKindsCardSaid : Prop := Claim7.holds Tryz.pinned (.plain (OpenSpec.ofChange witnessKindsSpec)) witnessKindsCard

/-- THE TIED CARD OF 'parterrelaw21.WitnessEither'. -/
def witnessEitherCard : Claim7 := { stood := { row := witnessEitherRow, standIns := [], harness := (true, "5169d83b206ea91ad5860175dac9a0c8dd3e8874131dfede1463aab18c9c2c01"), looks := false }, kinds := [], alts := [], laidByText := true, laidKinds := [.data, .data, .data], laidTests := true, laidLooks := .later }
def WitnessEitherCardSaid : Prop := Claim7.holds Tryz.pinned (.plain (OpenSpec.ofChange witnessEitherSpec)) witnessEitherCard

/-- THE SECOND FORM's CARD OF 'parterrelaw21.WitnessOdd'. -/
def witnessOddUptoCard : Claim7 := { stood := { row := witnessOddUptoRow, standIns := [], harness := (true, "5169d83b206ea91ad5860175dac9a0c8dd3e8874131dfede1463aab18c9c2c01"), looks := false }, kinds := [], alts := [], laidByText := true, laidKinds := [.data, .data, .data], laidTests := true, laidLooks := .later }
def WitnessOddUptoCardSaid : Prop := Claim7.holds Tryz.pinned (.plain (OpenSpec.upto witnessOddSpec)) witnessOddUptoCard

/-- THE SECOND FORM's CARD OF 'parterrelaw21.WitnessKinds'. -/
def witnessKindsUptoCard : Claim7 := { stood := { row := witnessKindsUptoRow, standIns := [], harness := (true, "5169d83b206ea91ad5860175dac9a0c8dd3e8874131dfede1463aab18c9c2c01"), looks := false }, kinds := [], alts := [], laidByText := true, laidKinds := [.data, .data, .data], laidTests := true, laidLooks := .later }
def WitnessKindsUptoCardSaid : Prop := Claim7.holds Tryz.pinned (.plain (OpenSpec.upto witnessKindsSpec)) witnessKindsUptoCard

/-- THE SECOND FORM's CARD OF 'parterrelaw21.WitnessEither'. -/
def witnessEitherUptoCard : Claim7 := { stood := { row := witnessEitherUptoRow, standIns := [], harness := (true, "5169d83b206ea91ad5860175dac9a0c8dd3e8874131dfede1463aab18c9c2c01"), looks := false }, kinds := [], alts := [], laidByText := true, laidKinds := [.data, .data, .data], laidTests := true, laidLooks := .later }
def WitnessEitherUptoCardSaid : Prop := Claim7.holds Tryz.pinned (.plain (OpenSpec.upto witnessEitherSpec)) witnessEitherUptoCard
end Rows
end Go.Proofs.YteooinddnfbglaaGreatDoor
