/-
  DERIVED. GIVEN WITH THE SEED: THE CARDS: each row of YtjlfjchcmkkebaaGreatDoorRows.lean that lists a variable, with what it lists TIED to the program's text (the seventh form; the later family's looks); each row that meets fmt, with fmt's text TOLD by the authors' own Lean function (tested against real Go, not proved from fmt's source: count such statements apart). THE CARD IS WHAT COUNTS. Prove the row's statement (the work); the ties are given (YtjlfjchcmkkebaaGreatDoorTie.lean); close each card by the builder's one call (the guide's Derived/Test/ToyasCard.lean, 'card_holds'). Laid BY PROGRAM, IN A SANDBOX (cutbox-door.mjs). By AI agents, Wed Nov 11 2026. No macro, syntax, notation, axiom, sorry.
-/
import Derived.Test.YtjlfjchcmkkebaaGreatDoorRows
import GoSem.ClaimSeven
namespace Go.Proofs.YtjlfjchcmkkebaaGreatDoor
namespace Rows

/-- THE TIED CARD OF 'stelelaw40.DirectoryDecoding'. -/
def directoryDecodingCard : Claim7 := { stood := { row := directoryDecodingRow, standIns := [], harness := (true, "2903ffc1ff6ef99e6f568104fe9072efbcc7aa7f32e5051dc1d3ce3fda1a32ad"), looks := true }, kinds := [], alts := [], laidByText := true, laidKinds := [.data, .data, .data, .data, .sentinel, .sentinel, .pinned], laidTests := true, laidLooks := .later }
def DirectoryDecodingCardSaid : Prop := Claim7.holds Tryz.pinned (.plain (OpenSpec.ofChange directoryDecodingSpec)) directoryDecodingCard

/-- THE TIED CARD OF 'stelelaw40.DirectoryCanonical'. -/
def directoryCanonicalCard : Claim7 := { stood := { row := directoryCanonicalRow, standIns := [], harness := (true, "2903ffc1ff6ef99e6f568104fe9072efbcc7aa7f32e5051dc1d3ce3fda1a32ad"), looks := true }, kinds := [], alts := [], laidByText := true, laidKinds := [.data, .data, .data, .data, .sentinel, .sentinel, .pinned], laidTests := true, laidLooks := .later }
def DirectoryCanonicalCardSaid : Prop := Claim7.holds Tryz.pinned (.plain (OpenSpec.ofChange directoryCanonicalSpec)) directoryCanonicalCard

/-- THE TIED CARD OF 'stelelaw40.DirectoryTruncation'. -/
def directoryTruncationCard : Claim7 := { stood := { row := directoryTruncationRow, standIns := [], harness := (true, "2903ffc1ff6ef99e6f568104fe9072efbcc7aa7f32e5051dc1d3ce3fda1a32ad"), looks := true }, kinds := [], alts := [], laidByText := true, laidKinds := [.data, .data, .data, .data, .sentinel, .sentinel, .pinned], laidTests := true, laidLooks := .later }
def DirectoryTruncationCardSaid : Prop := Claim7.holds Tryz.pinned (.plain (OpenSpec.ofChange directoryTruncationSpec)) directoryTruncationCard

/-- THE TIED CARD OF 'stelelaw40.DirectoryInjective'. -/
def directoryInjectiveCard : Claim7 := { stood := { row := directoryInjectiveRow, standIns := [], harness := (true, "2903ffc1ff6ef99e6f568104fe9072efbcc7aa7f32e5051dc1d3ce3fda1a32ad"), looks := true }, kinds := [], alts := [], laidByText := true, laidKinds := [.data, .data, .data, .data, .sentinel, .sentinel, .pinned], laidTests := true, laidLooks := .later }
def DirectoryInjectiveCardSaid : Prop := Claim7.holds Tryz.pinned (.plain (OpenSpec.ofChange directoryInjectiveSpec)) directoryInjectiveCard

/-- THE TIED CARD OF 'stelelaw40.DirectoryEncoding'. -/
def directoryEncodingCard : Claim7 := { stood := { row := directoryEncodingRow, standIns := [], harness := (true, "2903ffc1ff6ef99e6f568104fe9072efbcc7aa7f32e5051dc1d3ce3fda1a32ad"), looks := true }, kinds := [], alts := [], laidByText := true, laidKinds := [.data, .data, .data, .data, .sentinel, .sentinel, .pinned], laidTests := true, laidLooks := .later }
def DirectoryEncodingCardSaid : Prop := Claim7.holds Tryz.pinned (.plain (OpenSpec.ofChange directoryEncodingSpec)) directoryEncodingCard

/-- THE TIED CARD OF 'stelelaw40.DirectoryDigest'. -/
def directoryDigestCard : Claim7 := { stood := { row := directoryDigestRow, standIns := [], harness := (true, "2903ffc1ff6ef99e6f568104fe9072efbcc7aa7f32e5051dc1d3ce3fda1a32ad"), looks := true }, kinds := [], alts := [], laidByText := true, laidKinds := [.data, .data, .data, .data, .sentinel, .sentinel, .pinned], laidTests := true, laidLooks := .later }
def DirectoryDigestCardSaid : Prop := Claim7.holds Tryz.pinned (.plain (OpenSpec.ofChange directoryDigestSpec)) directoryDigestCard

/-- THE TIED CARD OF 'stelelaw40.DirectoryParts'. -/
def directoryPartsCard : Claim7 := { stood := { row := directoryPartsRow, standIns := [], harness := (true, "2903ffc1ff6ef99e6f568104fe9072efbcc7aa7f32e5051dc1d3ce3fda1a32ad"), looks := true }, kinds := [], alts := [], laidByText := true, laidKinds := [.data, .data, .data, .data, .sentinel, .sentinel, .pinned], laidTests := true, laidLooks := .later }
def DirectoryPartsCardSaid : Prop := Claim7.holds Tryz.pinned (.plain (OpenSpec.ofChange directoryPartsSpec)) directoryPartsCard

/-- THE TIED CARD OF 'stelelaw40.DirectoryRoundTrip'. -/
def directoryRoundTripCard : Claim7 := { stood := { row := directoryRoundTripRow, standIns := [], harness := (true, "2903ffc1ff6ef99e6f568104fe9072efbcc7aa7f32e5051dc1d3ce3fda1a32ad"), looks := true }, kinds := [], alts := [], laidByText := true, laidKinds := [.data, .data, .data, .data, .sentinel, .sentinel, .pinned], laidTests := true, laidLooks := .later }
def DirectoryRoundTripCardSaid : Prop := Claim7.holds Tryz.pinned (.plain (OpenSpec.ofChange directoryRoundTripSpec)) directoryRoundTripCard

/-- THE SECOND FORM's CARD OF 'stelelaw40.DirectoryDecoding'. -/
def directoryDecodingUptoCard : Claim7 := { stood := { row := directoryDecodingUptoRow, standIns := [], harness := (true, "2903ffc1ff6ef99e6f568104fe9072efbcc7aa7f32e5051dc1d3ce3fda1a32ad"), looks := true }, kinds := [], alts := [], laidByText := true, laidKinds := [.data, .data, .data, .data, .sentinel, .sentinel, .pinned], laidTests := true, laidLooks := .later }
def DirectoryDecodingUptoCardSaid : Prop := Claim7.holds Tryz.pinned (.plain (OpenSpec.upto directoryDecodingSpec)) directoryDecodingUptoCard

/-- THE SECOND FORM's CARD OF 'stelelaw40.DirectoryCanonical'. -/
def directoryCanonicalUptoCard : Claim7 := { stood := { row := directoryCanonicalUptoRow, standIns := [], harness := (true, "2903ffc1ff6ef99e6f568104fe9072efbcc7aa7f32e5051dc1d3ce3fda1a32ad"), looks := true }, kinds := [], alts := [], laidByText := true, laidKinds := [.data, .data, .data, .data, .sentinel, .sentinel, .pinned], laidTests := true, laidLooks := .later }
def DirectoryCanonicalUptoCardSaid : Prop := Claim7.holds Tryz.pinned (.plain (OpenSpec.upto directoryCanonicalSpec)) directoryCanonicalUptoCard

/-- THE SECOND FORM's CARD OF 'stelelaw40.DirectoryTruncation'. -/
def directoryTruncationUptoCard : Claim7 := { stood := { row := directoryTruncationUptoRow, standIns := [], harness := (true, "2903ffc1ff6ef99e6f568104fe9072efbcc7aa7f32e5051dc1d3ce3fda1a32ad"), looks := true }, kinds := [], alts := [], laidByText := true, laidKinds := [.data, .data, .data, .data, .sentinel, .sentinel, .pinned], laidTests := true, laidLooks := .later }
def DirectoryTruncationUptoCardSaid : Prop := Claim7.holds Tryz.pinned (.plain (OpenSpec.upto directoryTruncationSpec)) directoryTruncationUptoCard

/-- THE SECOND FORM's CARD OF 'stelelaw40.DirectoryInjective'. -/
def directoryInjectiveUptoCard : Claim7 := { stood := { row := directoryInjectiveUptoRow, standIns := [], harness := (true, "2903ffc1ff6ef99e6f568104fe9072efbcc7aa7f32e5051dc1d3ce3fda1a32ad"), looks := true }, kinds := [], alts := [], laidByText := true, laidKinds := [.data, .data, .data, .data, .sentinel, .sentinel, .pinned], laidTests := true, laidLooks := .later }
def DirectoryInjectiveUptoCardSaid : Prop := Claim7.holds Tryz.pinned (.plain (OpenSpec.upto directoryInjectiveSpec)) directoryInjectiveUptoCard

/-- THE SECOND FORM's CARD OF 'stelelaw40.DirectoryEncoding'. -/
def directoryEncodingUptoCard : Claim7 := { stood := { row := directoryEncodingUptoRow, standIns := [], harness := (true, "2903ffc1ff6ef99e6f568104fe9072efbcc7aa7f32e5051dc1d3ce3fda1a32ad"), looks := true }, kinds := [], alts := [], laidByText := true, laidKinds := [.data, .data, .data, .data, .sentinel, .sentinel, .pinned], laidTests := true, laidLooks := .later }
def DirectoryEncodingUptoCardSaid : Prop := Claim7.holds Tryz.pinned (.plain (OpenSpec.upto directoryEncodingSpec)) directoryEncodingUptoCard

/-- THE SECOND FORM's CARD OF 'stelelaw40.DirectoryDigest'. -/
def directoryDigestUptoCard : Claim7 := { stood := { row := directoryDigestUptoRow, standIns := [], harness := (true, "2903ffc1ff6ef99e6f568104fe9072efbcc7aa7f32e5051dc1d3ce3fda1a32ad"), looks := true }, kinds := [], alts := [], laidByText := true, laidKinds := [.data, .data, .data, .data, .sentinel, .sentinel, .pinned], laidTests := true, laidLooks := .later }
def DirectoryDigestUptoCardSaid : Prop := Claim7.holds Tryz.pinned (.plain (OpenSpec.upto directoryDigestSpec)) directoryDigestUptoCard

/-- THE SECOND FORM's CARD OF 'stelelaw40.DirectoryParts'. -/
def directoryPartsUptoCard : Claim7 := { stood := { row := directoryPartsUptoRow, standIns := [], harness := (true, "2903ffc1ff6ef99e6f568104fe9072efbcc7aa7f32e5051dc1d3ce3fda1a32ad"), looks := true }, kinds := [], alts := [], laidByText := true, laidKinds := [.data, .data, .data, .data, .sentinel, .sentinel, .pinned], laidTests := true, laidLooks := .later }
def DirectoryPartsUptoCardSaid : Prop := Claim7.holds Tryz.pinned (.plain (OpenSpec.upto directoryPartsSpec)) directoryPartsUptoCard

/-- THE SECOND FORM's CARD OF 'stelelaw40.DirectoryRoundTrip'. -/
def directoryRoundTripUptoCard : Claim7 := { stood := { row := directoryRoundTripUptoRow, standIns := [], harness := (true, "2903ffc1ff6ef99e6f568104fe9072efbcc7aa7f32e5051dc1d3ce3fda1a32ad"), looks := true }, kinds := [], alts := [], laidByText := true, laidKinds := [.data, .data, .data, .data, .sentinel, .sentinel, .pinned], laidTests := true, laidLooks := .later }
def DirectoryRoundTripUptoCardSaid : Prop := Claim7.holds Tryz.pinned (.plain (OpenSpec.upto directoryRoundTripSpec)) directoryRoundTripUptoCard
end Rows
end Go.Proofs.YtjlfjchcmkkebaaGreatDoor
