/-
  DERIVED. GIVEN WITH THE SEED: THE CARDS: each row of YtmkpajhfgdffpaaDoorRows.lean that lists a variable, with what it lists TIED to the program's text (the seventh form; the later family's looks); each row that meets fmt, with fmt's text TOLD by the authors' own Lean function (tested against real Go, not proved from fmt's source: count such statements apart). THE CARD IS WHAT COUNTS. Prove the row's statement (the work); the ties are given (YtmkpajhfgdffpaaDoorTie.lean); close each card by the builder's one call (the guide's Derived/Test/ToyasCard.lean, 'card_holds'). Laid BY PROGRAM, IN A SANDBOX (cutbox-door.mjs). By AI agents, Wed Nov 11 2026. No macro, syntax, notation, axiom, sorry.
-/
import Derived.Test.YtmkpajhfgdffpaaDoorRows
import GoSem.ClaimSeven
namespace Go.Proofs.YtmkpajhfgdffpaaDoor
namespace Rows

/-- THE TIED CARD OF 'sealchainlaw06.TapeParts'. -/
def tapePartsCard : Claim7 := { stood := { row := tapePartsRow, standIns := [], harness := (true, "a34dfdc1ac5d9838a96a06635ebdfeb598aabdd78155becaa0b928be2737d30a"), looks := false }, kinds := [], alts := [], laidByText := true, laidKinds := [.data, .data], laidTests := true, laidLooks := .later }
def TapePartsCardSaid : Prop := Claim7.holds Tryd.pinned (.plain (OpenSpec.ofChange tapePartsSpec)) tapePartsCard

/-- THE TIED CARD OF 'sealchainlaw06.TapeBlocks'. -/
def tapeBlocksCard : Claim7 := { stood := { row := tapeBlocksRow, standIns := [], harness := (true, "a34dfdc1ac5d9838a96a06635ebdfeb598aabdd78155becaa0b928be2737d30a"), looks := false }, kinds := [], alts := [], laidByText := true, laidKinds := [.data, .data], laidTests := true, laidLooks := .later }
def TapeBlocksCardSaid : Prop := Claim7.holds Tryd.pinned (.plain (OpenSpec.ofChange tapeBlocksSpec)) tapeBlocksCard

/-- THE TIED CARD OF 'sealchainlaw06.TapeDraws'. -/
def tapeDrawsCard : Claim7 := { stood := { row := tapeDrawsRow, standIns := [], harness := (true, "a34dfdc1ac5d9838a96a06635ebdfeb598aabdd78155becaa0b928be2737d30a"), looks := false }, kinds := [], alts := [], laidByText := true, laidKinds := [.data, .data], laidTests := true, laidLooks := .later }
def TapeDrawsCardSaid : Prop := Claim7.holds Tryd.pinned (.plain (OpenSpec.ofChange tapeDrawsSpec)) tapeDrawsCard

/-- THE TIED CARD OF 'sealchainlaw06.TapeCopies'. -/
def tapeCopiesCard : Claim7 := { stood := { row := tapeCopiesRow, standIns := [], harness := (true, "a34dfdc1ac5d9838a96a06635ebdfeb598aabdd78155becaa0b928be2737d30a"), looks := false }, kinds := [], alts := [], laidByText := true, laidKinds := [.data, .data], laidTests := true, laidLooks := .later }
def TapeCopiesCardSaid : Prop := Claim7.holds Tryd.pinned (.plain (OpenSpec.ofChange tapeCopiesSpec)) tapeCopiesCard

/-- THE TIED CARD OF 'sealchainlaw06.TapeSkips'. -/
def tapeSkipsCard : Claim7 := { stood := { row := tapeSkipsRow, standIns := [], harness := (true, "a34dfdc1ac5d9838a96a06635ebdfeb598aabdd78155becaa0b928be2737d30a"), looks := false }, kinds := [], alts := [], laidByText := true, laidKinds := [.data, .data], laidTests := true, laidLooks := .later }
def TapeSkipsCardSaid : Prop := Claim7.holds Tryd.pinned (.plain (OpenSpec.ofChange tapeSkipsSpec)) tapeSkipsCard

/-- THE TIED CARD OF 'sealchainlaw06.TapeKnown'. -/
def tapeKnownCard : Claim7 := { stood := { row := tapeKnownRow, standIns := [], harness := (true, "a34dfdc1ac5d9838a96a06635ebdfeb598aabdd78155becaa0b928be2737d30a"), looks := false }, kinds := [], alts := [], laidByText := true, laidKinds := [.data, .data], laidTests := true, laidLooks := .later }
def TapeKnownCardSaid : Prop := Claim7.holds Tryd.pinned (.plain (OpenSpec.ofChange tapeKnownSpec)) tapeKnownCard

/-- THE SECOND FORM's CARD OF 'sealchainlaw06.TapeParts'. -/
def tapePartsUptoCard : Claim7 := { stood := { row := tapePartsUptoRow, standIns := [], harness := (true, "a34dfdc1ac5d9838a96a06635ebdfeb598aabdd78155becaa0b928be2737d30a"), looks := false }, kinds := [], alts := [], laidByText := true, laidKinds := [.data, .data], laidTests := true, laidLooks := .later }
def TapePartsUptoCardSaid : Prop := Claim7.holds Tryd.pinned (.plain (OpenSpec.upto tapePartsSpec)) tapePartsUptoCard

/-- THE SECOND FORM's CARD OF 'sealchainlaw06.TapeBlocks'. -/
def tapeBlocksUptoCard : Claim7 := { stood := { row := tapeBlocksUptoRow, standIns := [], harness := (true, "a34dfdc1ac5d9838a96a06635ebdfeb598aabdd78155becaa0b928be2737d30a"), looks := false }, kinds := [], alts := [], laidByText := true, laidKinds := [.data, .data], laidTests := true, laidLooks := .later }
def TapeBlocksUptoCardSaid : Prop := Claim7.holds Tryd.pinned (.plain (OpenSpec.upto tapeBlocksSpec)) tapeBlocksUptoCard

/-- THE SECOND FORM's CARD OF 'sealchainlaw06.TapeDraws'. -/
def tapeDrawsUptoCard : Claim7 := { stood := { row := tapeDrawsUptoRow, standIns := [], harness := (true, "a34dfdc1ac5d9838a96a06635ebdfeb598aabdd78155becaa0b928be2737d30a"), looks := false }, kinds := [], alts := [], laidByText := true, laidKinds := [.data, .data], laidTests := true, laidLooks := .later }
def TapeDrawsUptoCardSaid : Prop := Claim7.holds Tryd.pinned (.plain (OpenSpec.upto tapeDrawsSpec)) tapeDrawsUptoCard

/-- THE SECOND FORM's CARD OF 'sealchainlaw06.TapeCopies'. -/
def tapeCopiesUptoCard : Claim7 := { stood := { row := tapeCopiesUptoRow, standIns := [], harness := (true, "a34dfdc1ac5d9838a96a06635ebdfeb598aabdd78155becaa0b928be2737d30a"), looks := false }, kinds := [], alts := [], laidByText := true, laidKinds := [.data, .data], laidTests := true, laidLooks := .later }
def TapeCopiesUptoCardSaid : Prop := Claim7.holds Tryd.pinned (.plain (OpenSpec.upto tapeCopiesSpec)) tapeCopiesUptoCard

/-- THE SECOND FORM's CARD OF 'sealchainlaw06.TapeSkips'. -/
def tapeSkipsUptoCard : Claim7 := { stood := { row := tapeSkipsUptoRow, standIns := [], harness := (true, "a34dfdc1ac5d9838a96a06635ebdfeb598aabdd78155becaa0b928be2737d30a"), looks := false }, kinds := [], alts := [], laidByText := true, laidKinds := [.data, .data], laidTests := true, laidLooks := .later }
def TapeSkipsUptoCardSaid : Prop := Claim7.holds Tryd.pinned (.plain (OpenSpec.upto tapeSkipsSpec)) tapeSkipsUptoCard

/-- THE SECOND FORM's CARD OF 'sealchainlaw06.TapeKnown'. -/
def tapeKnownUptoCard : Claim7 := { stood := { row := tapeKnownUptoRow, standIns := [], harness := (true, "a34dfdc1ac5d9838a96a06635ebdfeb598aabdd78155becaa0b928be2737d30a"), looks := false }, kinds := [], alts := [], laidByText := true, laidKinds := [.data, .data], laidTests := true, laidLooks := .later }
def TapeKnownUptoCardSaid : Prop := Claim7.holds Tryd.pinned (.plain (OpenSpec.upto tapeKnownSpec)) tapeKnownUptoCard
end Rows
end Go.Proofs.YtmkpajhfgdffpaaDoor
