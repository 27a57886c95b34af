/-
  DERIVED. GIVEN WITH THE SEED: THE CARDS: each row of YtadhbnleahipaaaGreatDoorRows.lean that lists a variable, with what it lists TIED to the program's text (the seventh form; the later family's looks); each row that meets fmt, with fmt's text TOLD by the authors' own Lean function (tested against real Go, not proved from fmt's source: count such statements apart). THE CARD IS WHAT COUNTS. Prove the row's statement (the work); the ties are given (YtadhbnleahipaaaGreatDoorTie.lean); close each card by the builder's one call (the guide's Derived/Test/ToyasCard.lean, 'card_holds'). Laid BY PROGRAM, IN A SANDBOX (cutbox-door.mjs). By AI agents, Wed Nov 11 2026. No macro, syntax, notation, axiom, sorry.
-/
import Derived.Test.YtadhbnleahipaaaGreatDoorRows
import GoSem.ClaimSeven
namespace Go.Proofs.YtadhbnleahipaaaGreatDoor
namespace Rows

/-- THE TIED CARD OF 'stelelaw47.CustodyChecks'. -/
def custodyChecksCard : Claim7 := { stood := { row := custodyChecksRow, standIns := [], harness := (true, "411e6858670f6d7ee2afb21fed5c349c01c49fba41ce5b3809da78bf850a4516"), looks := true }, kinds := [], alts := [], laidByText := true, laidKinds := [.data, .data, .data, .data, .sentinel, .sentinel, .pinned], laidTests := true, laidLooks := .later }
def CustodyChecksCardSaid : Prop := Claim7.holds Tryz.pinned (.plain (OpenSpec.ofChange custodyChecksSpec)) custodyChecksCard

/-- THE TIED CARD OF 'stelelaw47.CustodyPrefix'. -/
def custodyPrefixCard : Claim7 := { stood := { row := custodyPrefixRow, standIns := [], harness := (true, "411e6858670f6d7ee2afb21fed5c349c01c49fba41ce5b3809da78bf850a4516"), looks := true }, kinds := [], alts := [], laidByText := true, laidKinds := [.data, .data, .data, .data, .sentinel, .sentinel, .pinned], laidTests := true, laidLooks := .later }
def CustodyPrefixCardSaid : Prop := Claim7.holds Tryz.pinned (.plain (OpenSpec.ofChange custodyPrefixSpec)) custodyPrefixCard

/-- THE TIED CARD OF 'stelelaw47.CustodyKeeper'. -/
def custodyKeeperCard : Claim7 := { stood := { row := custodyKeeperRow, standIns := [], harness := (true, "411e6858670f6d7ee2afb21fed5c349c01c49fba41ce5b3809da78bf850a4516"), looks := true }, kinds := [], alts := [], laidByText := true, laidKinds := [.data, .data, .data, .data, .sentinel, .sentinel, .pinned], laidTests := true, laidLooks := .later }
def CustodyKeeperCardSaid : Prop := Claim7.holds Tryz.pinned (.plain (OpenSpec.ofChange custodyKeeperSpec)) custodyKeeperCard

/-- THE TIED CARD OF 'stelelaw47.CustodyTampering'. -/
def custodyTamperingCard : Claim7 := { stood := { row := custodyTamperingRow, standIns := [], harness := (true, "411e6858670f6d7ee2afb21fed5c349c01c49fba41ce5b3809da78bf850a4516"), looks := true }, kinds := [], alts := [], laidByText := true, laidKinds := [.data, .data, .data, .data, .sentinel, .sentinel, .pinned], laidTests := true, laidLooks := .later }
def CustodyTamperingCardSaid : Prop := Claim7.holds Tryz.pinned (.plain (OpenSpec.ofChange custodyTamperingSpec)) custodyTamperingCard

/-- THE TIED CARD OF 'stelelaw47.CustodyTranslation'. -/
def custodyTranslationCard : Claim7 := { stood := { row := custodyTranslationRow, standIns := [], harness := (true, "411e6858670f6d7ee2afb21fed5c349c01c49fba41ce5b3809da78bf850a4516"), looks := true }, kinds := [], alts := [], laidByText := true, laidKinds := [.data, .data, .data, .data, .sentinel, .sentinel, .pinned], laidTests := true, laidLooks := .later }
def CustodyTranslationCardSaid : Prop := Claim7.holds Tryz.pinned (.plain (OpenSpec.ofChange custodyTranslationSpec)) custodyTranslationCard

/-- THE TIED CARD OF 'stelelaw47.CustodySigns'. -/
def custodySignsCard : Claim7 := { stood := { row := custodySignsRow, standIns := [], harness := (true, "411e6858670f6d7ee2afb21fed5c349c01c49fba41ce5b3809da78bf850a4516"), looks := true }, kinds := [], alts := [], laidByText := true, laidKinds := [.data, .data, .data, .data, .sentinel, .sentinel, .pinned], laidTests := true, laidLooks := .later }
def CustodySignsCardSaid : Prop := Claim7.holds Tryz.pinned (.plain (OpenSpec.ofChange custodySignsSpec)) custodySignsCard

/-- THE TIED CARD OF 'stelelaw47.CustodySucceeds'. -/
def custodySucceedsCard : Claim7 := { stood := { row := custodySucceedsRow, standIns := [], harness := (true, "411e6858670f6d7ee2afb21fed5c349c01c49fba41ce5b3809da78bf850a4516"), looks := true }, kinds := [], alts := [], laidByText := true, laidKinds := [.data, .data, .data, .data, .sentinel, .sentinel, .pinned], laidTests := true, laidLooks := .later }
def CustodySucceedsCardSaid : Prop := Claim7.holds Tryz.pinned (.plain (OpenSpec.ofChange custodySucceedsSpec)) custodySucceedsCard

/-- THE TIED CARD OF 'stelelaw47.CustodyKeys'. -/
def custodyKeysCard : Claim7 := { stood := { row := custodyKeysRow, standIns := [], harness := (true, "411e6858670f6d7ee2afb21fed5c349c01c49fba41ce5b3809da78bf850a4516"), looks := true }, kinds := [], alts := [], laidByText := true, laidKinds := [.data, .data, .data, .data, .sentinel, .sentinel, .pinned], laidTests := true, laidLooks := .later }
def CustodyKeysCardSaid : Prop := Claim7.holds Tryz.pinned (.plain (OpenSpec.ofChange custodyKeysSpec)) custodyKeysCard

/-- THE SECOND FORM's CARD OF 'stelelaw47.CustodyChecks'. -/
def custodyChecksUptoCard : Claim7 := { stood := { row := custodyChecksUptoRow, standIns := [], harness := (true, "411e6858670f6d7ee2afb21fed5c349c01c49fba41ce5b3809da78bf850a4516"), looks := true }, kinds := [], alts := [], laidByText := true, laidKinds := [.data, .data, .data, .data, .sentinel, .sentinel, .pinned], laidTests := true, laidLooks := .later }
def CustodyChecksUptoCardSaid : Prop := Claim7.holds Tryz.pinned (.plain (OpenSpec.upto custodyChecksSpec)) custodyChecksUptoCard

/-- THE SECOND FORM's CARD OF 'stelelaw47.CustodyPrefix'. -/
def custodyPrefixUptoCard : Claim7 := { stood := { row := custodyPrefixUptoRow, standIns := [], harness := (true, "411e6858670f6d7ee2afb21fed5c349c01c49fba41ce5b3809da78bf850a4516"), looks := true }, kinds := [], alts := [], laidByText := true, laidKinds := [.data, .data, .data, .data, .sentinel, .sentinel, .pinned], laidTests := true, laidLooks := .later }
def CustodyPrefixUptoCardSaid : Prop := Claim7.holds Tryz.pinned (.plain (OpenSpec.upto custodyPrefixSpec)) custodyPrefixUptoCard

/-- THE SECOND FORM's CARD OF 'stelelaw47.CustodyKeeper'. -/
def custodyKeeperUptoCard : Claim7 := { stood := { row := custodyKeeperUptoRow, standIns := [], harness := (true, "411e6858670f6d7ee2afb21fed5c349c01c49fba41ce5b3809da78bf850a4516"), looks := true }, kinds := [], alts := [], laidByText := true, laidKinds := [.data, .data, .data, .data, .sentinel, .sentinel, .pinned], laidTests := true, laidLooks := .later }
def CustodyKeeperUptoCardSaid : Prop := Claim7.holds Tryz.pinned (.plain (OpenSpec.upto custodyKeeperSpec)) custodyKeeperUptoCard

/-- THE SECOND FORM's CARD OF 'stelelaw47.CustodyTampering'. -/
def custodyTamperingUptoCard : Claim7 := { stood := { row := custodyTamperingUptoRow, standIns := [], harness := (true, "411e6858670f6d7ee2afb21fed5c349c01c49fba41ce5b3809da78bf850a4516"), looks := true }, kinds := [], alts := [], laidByText := true, laidKinds := [.data, .data, .data, .data, .sentinel, .sentinel, .pinned], laidTests := true, laidLooks := .later }
def CustodyTamperingUptoCardSaid : Prop := Claim7.holds Tryz.pinned (.plain (OpenSpec.upto custodyTamperingSpec)) custodyTamperingUptoCard

/-- THE SECOND FORM's CARD OF 'stelelaw47.CustodyTranslation'. -/
def custodyTranslationUptoCard : Claim7 := { stood := { row := custodyTranslationUptoRow, standIns := [], harness := (true, "411e6858670f6d7ee2afb21fed5c349c01c49fba41ce5b3809da78bf850a4516"), looks := true }, kinds := [], alts := [], laidByText := true, laidKinds := [.data, .data, .data, .data, .sentinel, .sentinel, .pinned], laidTests := true, laidLooks := .later }
def CustodyTranslationUptoCardSaid : Prop := Claim7.holds Tryz.pinned (.plain (OpenSpec.upto custodyTranslationSpec)) custodyTranslationUptoCard

/-- THE SECOND FORM's CARD OF 'stelelaw47.CustodySigns'. -/
def custodySignsUptoCard : Claim7 := { stood := { row := custodySignsUptoRow, standIns := [], harness := (true, "411e6858670f6d7ee2afb21fed5c349c01c49fba41ce5b3809da78bf850a4516"), looks := true }, kinds := [], alts := [], laidByText := true, laidKinds := [.data, .data, .data, .data, .sentinel, .sentinel, .pinned], laidTests := true, laidLooks := .later }
def CustodySignsUptoCardSaid : Prop := Claim7.holds Tryz.pinned (.plain (OpenSpec.upto custodySignsSpec)) custodySignsUptoCard

/-- THE SECOND FORM's CARD OF 'stelelaw47.CustodySucceeds'. -/
def custodySucceedsUptoCard : Claim7 := { stood := { row := custodySucceedsUptoRow, standIns := [], harness := (true, "411e6858670f6d7ee2afb21fed5c349c01c49fba41ce5b3809da78bf850a4516"), looks := true }, kinds := [], alts := [], laidByText := true, laidKinds := [.data, .data, .data, .data, .sentinel, .sentinel, .pinned], laidTests := true, laidLooks := .later }
def CustodySucceedsUptoCardSaid : Prop := Claim7.holds Tryz.pinned (.plain (OpenSpec.upto custodySucceedsSpec)) custodySucceedsUptoCard

/-- THE SECOND FORM's CARD OF 'stelelaw47.CustodyKeys'. -/
def custodyKeysUptoCard : Claim7 := { stood := { row := custodyKeysUptoRow, standIns := [], harness := (true, "411e6858670f6d7ee2afb21fed5c349c01c49fba41ce5b3809da78bf850a4516"), looks := true }, kinds := [], alts := [], laidByText := true, laidKinds := [.data, .data, .data, .data, .sentinel, .sentinel, .pinned], laidTests := true, laidLooks := .later }
def CustodyKeysUptoCardSaid : Prop := Claim7.holds Tryz.pinned (.plain (OpenSpec.upto custodyKeysSpec)) custodyKeysUptoCard
end Rows
end Go.Proofs.YtadhbnleahipaaaGreatDoor
