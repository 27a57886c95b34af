/-
  DERIVED. GIVEN WITH THE SEED: THE CARDS: each row of YtaeagckfkdmkaaaGreatDoorRows.lean that lists a variable, with what it lists TIED to the program's text (the seventh form; the later family's looks); each row that meets fmt, with fmt's text TOLD by the authors' own Lean function (tested against real Go, not proved from fmt's source: count such statements apart). THE CARD IS WHAT COUNTS. Prove the row's statement (the work); the ties are given (YtaeagckfkdmkaaaGreatDoorTie.lean); close each card by the builder's one call (the guide's Derived/Test/ToyasCard.lean, 'card_holds'). Laid BY PROGRAM, IN A SANDBOX (cutbox-door.mjs). By AI agents, Wed Nov 11 2026. No macro, syntax, notation, axiom, sorry.
-/
import Derived.Test.YtaeagckfkdmkaaaGreatDoorRows
import GoSem.ClaimSeven
namespace Go.Proofs.YtaeagckfkdmkaaaGreatDoor
namespace Rows

/-- THE TIED CARD OF 'stelelaw36.EntryEncoding'. -/
def entryEncodingCard : Claim7 := { stood := { row := entryEncodingRow, standIns := [], harness := (true, "227ecb8a84f732f67172e8e259d7cf073ede939ff59c61f53e681834b2eb7bde"), looks := true }, kinds := [], alts := [], laidByText := true, laidKinds := [.data, .data, .data, .data, .sentinel, .sentinel, .pinned], laidTests := true, laidLooks := .later }
def EntryEncodingCardSaid : Prop := Claim7.holds Tryz.pinned (.plain (OpenSpec.ofChange entryEncodingSpec)) entryEncodingCard

/-- THE TIED CARD OF 'stelelaw36.EntryDecoding'. -/
def entryDecodingCard : Claim7 := { stood := { row := entryDecodingRow, standIns := [], harness := (true, "227ecb8a84f732f67172e8e259d7cf073ede939ff59c61f53e681834b2eb7bde"), looks := true }, kinds := [], alts := [], laidByText := true, laidKinds := [.data, .data, .data, .data, .sentinel, .sentinel, .pinned], laidTests := true, laidLooks := .later }
def EntryDecodingCardSaid : Prop := Claim7.holds Tryz.pinned (.plain (OpenSpec.ofChange entryDecodingSpec)) entryDecodingCard

/-- THE TIED CARD OF 'stelelaw36.EntryRoundTrip'. -/
def entryRoundTripCard : Claim7 := { stood := { row := entryRoundTripRow, standIns := [], harness := (true, "227ecb8a84f732f67172e8e259d7cf073ede939ff59c61f53e681834b2eb7bde"), looks := true }, kinds := [], alts := [], laidByText := true, laidKinds := [.data, .data, .data, .data, .sentinel, .sentinel, .pinned], laidTests := true, laidLooks := .later }
def EntryRoundTripCardSaid : Prop := Claim7.holds Tryz.pinned (.plain (OpenSpec.ofChange entryRoundTripSpec)) entryRoundTripCard

/-- THE TIED CARD OF 'stelelaw36.EntryCanonical'. -/
def entryCanonicalCard : Claim7 := { stood := { row := entryCanonicalRow, standIns := [], harness := (true, "227ecb8a84f732f67172e8e259d7cf073ede939ff59c61f53e681834b2eb7bde"), looks := true }, kinds := [], alts := [], laidByText := true, laidKinds := [.data, .data, .data, .data, .sentinel, .sentinel, .pinned], laidTests := true, laidLooks := .later }
def EntryCanonicalCardSaid : Prop := Claim7.holds Tryz.pinned (.plain (OpenSpec.ofChange entryCanonicalSpec)) entryCanonicalCard

/-- THE TIED CARD OF 'stelelaw36.EntryPrefix'. -/
def entryPrefixCard : Claim7 := { stood := { row := entryPrefixRow, standIns := [], harness := (true, "227ecb8a84f732f67172e8e259d7cf073ede939ff59c61f53e681834b2eb7bde"), looks := true }, kinds := [], alts := [], laidByText := true, laidKinds := [.data, .data, .data, .data, .sentinel, .sentinel, .pinned], laidTests := true, laidLooks := .later }
def EntryPrefixCardSaid : Prop := Claim7.holds Tryz.pinned (.plain (OpenSpec.ofChange entryPrefixSpec)) entryPrefixCard

/-- THE TIED CARD OF 'stelelaw36.EntryEqual'. -/
def entryEqualCard : Claim7 := { stood := { row := entryEqualRow, standIns := [], harness := (true, "227ecb8a84f732f67172e8e259d7cf073ede939ff59c61f53e681834b2eb7bde"), looks := true }, kinds := [], alts := [], laidByText := true, laidKinds := [.data, .data, .data, .data, .sentinel, .sentinel, .pinned], laidTests := true, laidLooks := .later }
def EntryEqualCardSaid : Prop := Claim7.holds Tryz.pinned (.plain (OpenSpec.ofChange entryEqualSpec)) entryEqualCard

/-- THE TIED CARD OF 'stelelaw36.EntryHeads'. -/
def entryHeadsCard : Claim7 := { stood := { row := entryHeadsRow, standIns := [], harness := (true, "227ecb8a84f732f67172e8e259d7cf073ede939ff59c61f53e681834b2eb7bde"), looks := true }, kinds := [], alts := [], laidByText := true, laidKinds := [.data, .data, .data, .data, .sentinel, .sentinel, .pinned], laidTests := true, laidLooks := .later }
def EntryHeadsCardSaid : Prop := Claim7.holds Tryz.pinned (.plain (OpenSpec.ofChange entryHeadsSpec)) entryHeadsCard

/-- THE SECOND FORM's CARD OF 'stelelaw36.EntryEncoding'. -/
def entryEncodingUptoCard : Claim7 := { stood := { row := entryEncodingUptoRow, standIns := [], harness := (true, "227ecb8a84f732f67172e8e259d7cf073ede939ff59c61f53e681834b2eb7bde"), looks := true }, kinds := [], alts := [], laidByText := true, laidKinds := [.data, .data, .data, .data, .sentinel, .sentinel, .pinned], laidTests := true, laidLooks := .later }
def EntryEncodingUptoCardSaid : Prop := Claim7.holds Tryz.pinned (.plain (OpenSpec.upto entryEncodingSpec)) entryEncodingUptoCard

/-- THE SECOND FORM's CARD OF 'stelelaw36.EntryDecoding'. -/
def entryDecodingUptoCard : Claim7 := { stood := { row := entryDecodingUptoRow, standIns := [], harness := (true, "227ecb8a84f732f67172e8e259d7cf073ede939ff59c61f53e681834b2eb7bde"), looks := true }, kinds := [], alts := [], laidByText := true, laidKinds := [.data, .data, .data, .data, .sentinel, .sentinel, .pinned], laidTests := true, laidLooks := .later }
def EntryDecodingUptoCardSaid : Prop := Claim7.holds Tryz.pinned (.plain (OpenSpec.upto entryDecodingSpec)) entryDecodingUptoCard

/-- THE SECOND FORM's CARD OF 'stelelaw36.EntryRoundTrip'. -/
def entryRoundTripUptoCard : Claim7 := { stood := { row := entryRoundTripUptoRow, standIns := [], harness := (true, "227ecb8a84f732f67172e8e259d7cf073ede939ff59c61f53e681834b2eb7bde"), looks := true }, kinds := [], alts := [], laidByText := true, laidKinds := [.data, .data, .data, .data, .sentinel, .sentinel, .pinned], laidTests := true, laidLooks := .later }
def EntryRoundTripUptoCardSaid : Prop := Claim7.holds Tryz.pinned (.plain (OpenSpec.upto entryRoundTripSpec)) entryRoundTripUptoCard

/-- THE SECOND FORM's CARD OF 'stelelaw36.EntryCanonical'. -/
def entryCanonicalUptoCard : Claim7 := { stood := { row := entryCanonicalUptoRow, standIns := [], harness := (true, "227ecb8a84f732f67172e8e259d7cf073ede939ff59c61f53e681834b2eb7bde"), looks := true }, kinds := [], alts := [], laidByText := true, laidKinds := [.data, .data, .data, .data, .sentinel, .sentinel, .pinned], laidTests := true, laidLooks := .later }
def EntryCanonicalUptoCardSaid : Prop := Claim7.holds Tryz.pinned (.plain (OpenSpec.upto entryCanonicalSpec)) entryCanonicalUptoCard

/-- THE SECOND FORM's CARD OF 'stelelaw36.EntryPrefix'. -/
def entryPrefixUptoCard : Claim7 := { stood := { row := entryPrefixUptoRow, standIns := [], harness := (true, "227ecb8a84f732f67172e8e259d7cf073ede939ff59c61f53e681834b2eb7bde"), looks := true }, kinds := [], alts := [], laidByText := true, laidKinds := [.data, .data, .data, .data, .sentinel, .sentinel, .pinned], laidTests := true, laidLooks := .later }
def EntryPrefixUptoCardSaid : Prop := Claim7.holds Tryz.pinned (.plain (OpenSpec.upto entryPrefixSpec)) entryPrefixUptoCard

/-- THE SECOND FORM's CARD OF 'stelelaw36.EntryEqual'. -/
def entryEqualUptoCard : Claim7 := { stood := { row := entryEqualUptoRow, standIns := [], harness := (true, "227ecb8a84f732f67172e8e259d7cf073ede939ff59c61f53e681834b2eb7bde"), looks := true }, kinds := [], alts := [], laidByText := true, laidKinds := [.data, .data, .data, .data, .sentinel, .sentinel, .pinned], laidTests := true, laidLooks := .later }
def EntryEqualUptoCardSaid : Prop := Claim7.holds Tryz.pinned (.plain (OpenSpec.upto entryEqualSpec)) entryEqualUptoCard

/-- THE SECOND FORM's CARD OF 'stelelaw36.EntryHeads'. -/
def entryHeadsUptoCard : Claim7 := { stood := { row := entryHeadsUptoRow, standIns := [], harness := (true, "227ecb8a84f732f67172e8e259d7cf073ede939ff59c61f53e681834b2eb7bde"), looks := true }, kinds := [], alts := [], laidByText := true, laidKinds := [.data, .data, .data, .data, .sentinel, .sentinel, .pinned], laidTests := true, laidLooks := .later }
def EntryHeadsUptoCardSaid : Prop := Claim7.holds Tryz.pinned (.plain (OpenSpec.upto entryHeadsSpec)) entryHeadsUptoCard
end Rows
end Go.Proofs.YtaeagckfkdmkaaaGreatDoor
