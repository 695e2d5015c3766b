/-
  DERIVED. GIVEN WITH THE SEED: THE CARDS: each row of YtlgaikknodoilaaDoorRows.lean that lists a variable, with what it lists TIED to the program's text (the seventh form; the later family's looks); each row that meets fmt, with fmt's text TOLD by the authors' own Lean function (tested against real Go, not proved from fmt's source: count such statements apart). THE CARD IS WHAT COUNTS. Prove the row's statement (the work); the ties are given (YtlgaikknodoilaaDoorTie.lean); close each card by the builder's one call (the guide's Derived/Test/ToyasCard.lean, 'card_holds'). Laid BY PROGRAM, IN A SANDBOX (cutbox-door.mjs). By AI agents, Wed Nov 11 2026. No macro, syntax, notation, axiom, sorry.
-/
import Derived.Test.YtlgaikknodoilaaDoorRows
import GoSem.ClaimSeven
namespace Go.Proofs.YtlgaikknodoilaaDoor
namespace Rows

/-- THE TIED CARD OF 'sealchainlaw03.MacKeys'. -/
def macKeysCard : Claim7 := { stood := { row := macKeysRow, standIns := [], harness := (true, "84257a4bf0db9d4efc1b59df08b51f11c2a28259f8f73e395edc8ddf54485469"), looks := false }, kinds := [], alts := [], laidByText := true, laidKinds := [.data, .data], laidTests := true, laidLooks := .later }
def MacKeysCardSaid : Prop := Claim7.holds Tryd.pinned (.plain (OpenSpec.ofChange macKeysSpec)) macKeysCard

/-- THE TIED CARD OF 'sealchainlaw03.MacTwice'. -/
def macTwiceCard : Claim7 := { stood := { row := macTwiceRow, standIns := [], harness := (true, "84257a4bf0db9d4efc1b59df08b51f11c2a28259f8f73e395edc8ddf54485469"), looks := false }, kinds := [], alts := [], laidByText := true, laidKinds := [.data, .data], laidTests := true, laidLooks := .later }
def MacTwiceCardSaid : Prop := Claim7.holds Tryd.pinned (.plain (OpenSpec.ofChange macTwiceSpec)) macTwiceCard

/-- THE TIED CARD OF 'sealchainlaw03.MacSame'. -/
def macSameCard : Claim7 := { stood := { row := macSameRow, standIns := [], harness := (true, "84257a4bf0db9d4efc1b59df08b51f11c2a28259f8f73e395edc8ddf54485469"), looks := false }, kinds := [], alts := [], laidByText := true, laidKinds := [.data, .data], laidTests := true, laidLooks := .later }
def MacSameCardSaid : Prop := Claim7.holds Tryd.pinned (.plain (OpenSpec.ofChange macSameSpec)) macSameCard

/-- THE TIED CARD OF 'sealchainlaw03.MacDerives'. -/
def macDerivesCard : Claim7 := { stood := { row := macDerivesRow, standIns := [], harness := (true, "84257a4bf0db9d4efc1b59df08b51f11c2a28259f8f73e395edc8ddf54485469"), looks := false }, kinds := [], alts := [], laidByText := true, laidKinds := [.data, .data], laidTests := true, laidLooks := .later }
def MacDerivesCardSaid : Prop := Claim7.holds Tryd.pinned (.plain (OpenSpec.ofChange macDerivesSpec)) macDerivesCard

/-- THE TIED CARD OF 'sealchainlaw03.MacTells'. -/
def macTellsCard : Claim7 := { stood := { row := macTellsRow, standIns := [], harness := (true, "84257a4bf0db9d4efc1b59df08b51f11c2a28259f8f73e395edc8ddf54485469"), looks := false }, kinds := [], alts := [], laidByText := true, laidKinds := [.data, .data], laidTests := true, laidLooks := .later }
def MacTellsCardSaid : Prop := Claim7.holds Tryd.pinned (.plain (OpenSpec.ofChange macTellsSpec)) macTellsCard

/-- THE TIED CARD OF 'sealchainlaw03.MacKnown'. -/
def macKnownCard : Claim7 := { stood := { row := macKnownRow, standIns := [], harness := (true, "84257a4bf0db9d4efc1b59df08b51f11c2a28259f8f73e395edc8ddf54485469"), looks := false }, kinds := [], alts := [], laidByText := true, laidKinds := [.data, .data], laidTests := true, laidLooks := .later }
def MacKnownCardSaid : Prop := Claim7.holds Tryd.pinned (.plain (OpenSpec.ofChange macKnownSpec)) macKnownCard

/-- THE SECOND FORM's CARD OF 'sealchainlaw03.MacKeys'. -/
def macKeysUptoCard : Claim7 := { stood := { row := macKeysUptoRow, standIns := [], harness := (true, "84257a4bf0db9d4efc1b59df08b51f11c2a28259f8f73e395edc8ddf54485469"), looks := false }, kinds := [], alts := [], laidByText := true, laidKinds := [.data, .data], laidTests := true, laidLooks := .later }
def MacKeysUptoCardSaid : Prop := Claim7.holds Tryd.pinned (.plain (OpenSpec.upto macKeysSpec)) macKeysUptoCard

/-- THE SECOND FORM's CARD OF 'sealchainlaw03.MacTwice'. -/
def macTwiceUptoCard : Claim7 := { stood := { row := macTwiceUptoRow, standIns := [], harness := (true, "84257a4bf0db9d4efc1b59df08b51f11c2a28259f8f73e395edc8ddf54485469"), looks := false }, kinds := [], alts := [], laidByText := true, laidKinds := [.data, .data], laidTests := true, laidLooks := .later }
def MacTwiceUptoCardSaid : Prop := Claim7.holds Tryd.pinned (.plain (OpenSpec.upto macTwiceSpec)) macTwiceUptoCard

/-- THE SECOND FORM's CARD OF 'sealchainlaw03.MacSame'. -/
def macSameUptoCard : Claim7 := { stood := { row := macSameUptoRow, standIns := [], harness := (true, "84257a4bf0db9d4efc1b59df08b51f11c2a28259f8f73e395edc8ddf54485469"), looks := false }, kinds := [], alts := [], laidByText := true, laidKinds := [.data, .data], laidTests := true, laidLooks := .later }
def MacSameUptoCardSaid : Prop := Claim7.holds Tryd.pinned (.plain (OpenSpec.upto macSameSpec)) macSameUptoCard

/-- THE SECOND FORM's CARD OF 'sealchainlaw03.MacDerives'. -/
def macDerivesUptoCard : Claim7 := { stood := { row := macDerivesUptoRow, standIns := [], harness := (true, "84257a4bf0db9d4efc1b59df08b51f11c2a28259f8f73e395edc8ddf54485469"), looks := false }, kinds := [], alts := [], laidByText := true, laidKinds := [.data, .data], laidTests := true, laidLooks := .later }
def MacDerivesUptoCardSaid : Prop := Claim7.holds Tryd.pinned (.plain (OpenSpec.upto macDerivesSpec)) macDerivesUptoCard

/-- THE SECOND FORM's CARD OF 'sealchainlaw03.MacTells'. -/
def macTellsUptoCard : Claim7 := { stood := { row := macTellsUptoRow, standIns := [], harness := (true, "84257a4bf0db9d4efc1b59df08b51f11c2a28259f8f73e395edc8ddf54485469"), looks := false }, kinds := [], alts := [], laidByText := true, laidKinds := [.data, .data], laidTests := true, laidLooks := .later }
def MacTellsUptoCardSaid : Prop := Claim7.holds Tryd.pinned (.plain (OpenSpec.upto macTellsSpec)) macTellsUptoCard

/-- THE SECOND FORM's CARD OF 'sealchainlaw03.MacKnown'. -/
def macKnownUptoCard : Claim7 := { stood := { row := macKnownUptoRow, standIns := [], harness := (true, "84257a4bf0db9d4efc1b59df08b51f11c2a28259f8f73e395edc8ddf54485469"), looks := false }, kinds := [], alts := [], laidByText := true, laidKinds := [.data, .data], laidTests := true, laidLooks := .later }
def MacKnownUptoCardSaid : Prop := Claim7.holds Tryd.pinned (.plain (OpenSpec.upto macKnownSpec)) macKnownUptoCard
end Rows
end Go.Proofs.YtlgaikknodoilaaDoor
