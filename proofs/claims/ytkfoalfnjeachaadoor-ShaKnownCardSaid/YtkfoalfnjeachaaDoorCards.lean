/-
  DERIVED. GIVEN WITH THE SEED: THE CARDS: each row of YtkfoalfnjeachaaDoorRows.lean that lists a variable, with what it lists TIED to the program's text (the seventh form; the later family's looks); each row that meets fmt, with fmt's text TOLD by the authors' own Lean function (tested against real Go, not proved from fmt's source: count such statements apart). THE CARD IS WHAT COUNTS. Prove the row's statement (the work); the ties are given (YtkfoalfnjeachaaDoorTie.lean); close each card by the builder's one call (the guide's Derived/Test/ToyasCard.lean, 'card_holds'). Laid BY PROGRAM, IN A SANDBOX (cutbox-door.mjs). By AI agents, Wed Nov 11 2026. No macro, syntax, notation, axiom, sorry.
-/
import Derived.Test.YtkfoalfnjeachaaDoorRows
import GoSem.ClaimSeven
namespace Go.Proofs.YtkfoalfnjeachaaDoor
namespace Rows

/-- THE TIED CARD OF 'sealchainlaw02.ShaLengths'. -/
def shaLengthsCard : Claim7 := { stood := { row := shaLengthsRow, standIns := [], harness := (true, "042430beea6f3a982422cb1dd003dea82c5d73c6edcf77c5283d7987514d930c"), looks := false }, kinds := [], alts := [], laidByText := true, laidKinds := [.data, .data], laidTests := true, laidLooks := .later }
def ShaLengthsCardSaid : Prop := Claim7.holds Tryd.pinned (.plain (OpenSpec.ofChange shaLengthsSpec)) shaLengthsCard

/-- THE TIED CARD OF 'sealchainlaw02.ShaSums'. -/
def shaSumsCard : Claim7 := { stood := { row := shaSumsRow, standIns := [], harness := (true, "042430beea6f3a982422cb1dd003dea82c5d73c6edcf77c5283d7987514d930c"), looks := false }, kinds := [], alts := [], laidByText := true, laidKinds := [.data, .data], laidTests := true, laidLooks := .later }
def ShaSumsCardSaid : Prop := Claim7.holds Tryd.pinned (.plain (OpenSpec.ofChange shaSumsSpec)) shaSumsCard

/-- THE TIED CARD OF 'sealchainlaw02.ShaParts'. -/
def shaPartsCard : Claim7 := { stood := { row := shaPartsRow, standIns := [], harness := (true, "042430beea6f3a982422cb1dd003dea82c5d73c6edcf77c5283d7987514d930c"), looks := false }, kinds := [], alts := [], laidByText := true, laidKinds := [.data, .data], laidTests := true, laidLooks := .later }
def ShaPartsCardSaid : Prop := Claim7.holds Tryd.pinned (.plain (OpenSpec.ofChange shaPartsSpec)) shaPartsCard

/-- THE TIED CARD OF 'sealchainlaw02.ShaCopies'. -/
def shaCopiesCard : Claim7 := { stood := { row := shaCopiesRow, standIns := [], harness := (true, "042430beea6f3a982422cb1dd003dea82c5d73c6edcf77c5283d7987514d930c"), looks := false }, kinds := [], alts := [], laidByText := true, laidKinds := [.data, .data], laidTests := true, laidLooks := .later }
def ShaCopiesCardSaid : Prop := Claim7.holds Tryd.pinned (.plain (OpenSpec.ofChange shaCopiesSpec)) shaCopiesCard

/-- THE TIED CARD OF 'sealchainlaw02.ShaQuiet'. -/
def shaQuietCard : Claim7 := { stood := { row := shaQuietRow, standIns := [], harness := (true, "042430beea6f3a982422cb1dd003dea82c5d73c6edcf77c5283d7987514d930c"), looks := false }, kinds := [], alts := [], laidByText := true, laidKinds := [.data, .data], laidTests := true, laidLooks := .later }
def ShaQuietCardSaid : Prop := Claim7.holds Tryd.pinned (.plain (OpenSpec.ofChange shaQuietSpec)) shaQuietCard

/-- THE TIED CARD OF 'sealchainlaw02.ShaKnown'. -/
def shaKnownCard : Claim7 := { stood := { row := shaKnownRow, standIns := [], harness := (true, "042430beea6f3a982422cb1dd003dea82c5d73c6edcf77c5283d7987514d930c"), looks := false }, kinds := [], alts := [], laidByText := true, laidKinds := [.data, .data], laidTests := true, laidLooks := .later }
def ShaKnownCardSaid : Prop := Claim7.holds Tryd.pinned (.plain (OpenSpec.ofChange shaKnownSpec)) shaKnownCard

/-- THE SECOND FORM's CARD OF 'sealchainlaw02.ShaLengths'. -/
def shaLengthsUptoCard : Claim7 := { stood := { row := shaLengthsUptoRow, standIns := [], harness := (true, "042430beea6f3a982422cb1dd003dea82c5d73c6edcf77c5283d7987514d930c"), looks := false }, kinds := [], alts := [], laidByText := true, laidKinds := [.data, .data], laidTests := true, laidLooks := .later }
def ShaLengthsUptoCardSaid : Prop := Claim7.holds Tryd.pinned (.plain (OpenSpec.upto shaLengthsSpec)) shaLengthsUptoCard

/-- THE SECOND FORM's CARD OF 'sealchainlaw02.ShaSums'. -/
def shaSumsUptoCard : Claim7 := { stood := { row := shaSumsUptoRow, standIns := [], harness := (true, "042430beea6f3a982422cb1dd003dea82c5d73c6edcf77c5283d7987514d930c"), looks := false }, kinds := [], alts := [], laidByText := true, laidKinds := [.data, .data], laidTests := true, laidLooks := .later }
def ShaSumsUptoCardSaid : Prop := Claim7.holds Tryd.pinned (.plain (OpenSpec.upto shaSumsSpec)) shaSumsUptoCard

/-- THE SECOND FORM's CARD OF 'sealchainlaw02.ShaParts'. -/
def shaPartsUptoCard : Claim7 := { stood := { row := shaPartsUptoRow, standIns := [], harness := (true, "042430beea6f3a982422cb1dd003dea82c5d73c6edcf77c5283d7987514d930c"), looks := false }, kinds := [], alts := [], laidByText := true, laidKinds := [.data, .data], laidTests := true, laidLooks := .later }
def ShaPartsUptoCardSaid : Prop := Claim7.holds Tryd.pinned (.plain (OpenSpec.upto shaPartsSpec)) shaPartsUptoCard

/-- THE SECOND FORM's CARD OF 'sealchainlaw02.ShaCopies'. -/
def shaCopiesUptoCard : Claim7 := { stood := { row := shaCopiesUptoRow, standIns := [], harness := (true, "042430beea6f3a982422cb1dd003dea82c5d73c6edcf77c5283d7987514d930c"), looks := false }, kinds := [], alts := [], laidByText := true, laidKinds := [.data, .data], laidTests := true, laidLooks := .later }
def ShaCopiesUptoCardSaid : Prop := Claim7.holds Tryd.pinned (.plain (OpenSpec.upto shaCopiesSpec)) shaCopiesUptoCard

/-- THE SECOND FORM's CARD OF 'sealchainlaw02.ShaQuiet'. -/
def shaQuietUptoCard : Claim7 := { stood := { row := shaQuietUptoRow, standIns := [], harness := (true, "042430beea6f3a982422cb1dd003dea82c5d73c6edcf77c5283d7987514d930c"), looks := false }, kinds := [], alts := [], laidByText := true, laidKinds := [.data, .data], laidTests := true, laidLooks := .later }
def ShaQuietUptoCardSaid : Prop := Claim7.holds Tryd.pinned (.plain (OpenSpec.upto shaQuietSpec)) shaQuietUptoCard

/-- THE SECOND FORM's CARD OF 'sealchainlaw02.ShaKnown'. -/
def shaKnownUptoCard : Claim7 := { stood := { row := shaKnownUptoRow, standIns := [], harness := (true, "042430beea6f3a982422cb1dd003dea82c5d73c6edcf77c5283d7987514d930c"), looks := false }, kinds := [], alts := [], laidByText := true, laidKinds := [.data, .data], laidTests := true, laidLooks := .later }
def ShaKnownUptoCardSaid : Prop := Claim7.holds Tryd.pinned (.plain (OpenSpec.upto shaKnownSpec)) shaKnownUptoCard
end Rows
end Go.Proofs.YtkfoalfnjeachaaDoor
