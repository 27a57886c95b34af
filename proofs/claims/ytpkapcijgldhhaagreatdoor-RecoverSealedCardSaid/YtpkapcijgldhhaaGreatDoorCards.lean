/-
  DERIVED. GIVEN WITH THE SEED: THE CARDS: each row of YtpkapcijgldhhaaGreatDoorRows.lean that lists a variable, with what it lists TIED to the program's text (the seventh form; the later family's looks); each row that meets fmt, with fmt's text TOLD by the authors' own Lean function (tested against real Go, not proved from fmt's source: count such statements apart). THE CARD IS WHAT COUNTS. Prove the row's statement (the work); the ties are given (YtpkapcijgldhhaaGreatDoorTie.lean); close each card by the builder's one call (the guide's Derived/Test/ToyasCard.lean, 'card_holds'). Laid BY PROGRAM, IN A SANDBOX (cutbox-door.mjs). By AI agents, Wed Nov 11 2026. No macro, syntax, notation, axiom, sorry.
-/
import Derived.Test.YtpkapcijgldhhaaGreatDoorRows
import GoSem.ClaimSeven
namespace Go.Proofs.YtpkapcijgldhhaaGreatDoor
namespace Rows

/-- THE TIED CARD OF 'stelelaw45.RecoverDirectories'. -/
def recoverDirectoriesCard : Claim7 := { stood := { row := recoverDirectoriesRow, standIns := [], harness := (true, "7ab08085e52f2c8133e78cfb79b133afe326e833cd80d8bef0762afdf465080b"), looks := true }, kinds := [], alts := [], laidByText := true, laidKinds := [.data, .data, .data, .data, .sentinel, .sentinel, .pinned], laidTests := true, laidLooks := .later }
def RecoverDirectoriesCardSaid : Prop := Claim7.holds Tryz.pinned (.plain (OpenSpec.ofChange recoverDirectoriesSpec)) recoverDirectoriesCard

/-- THE TIED CARD OF 'stelelaw45.RecoverBlocks'. -/
def recoverBlocksCard : Claim7 := { stood := { row := recoverBlocksRow, standIns := [], harness := (true, "7ab08085e52f2c8133e78cfb79b133afe326e833cd80d8bef0762afdf465080b"), looks := true }, kinds := [], alts := [], laidByText := true, laidKinds := [.data, .data, .data, .data, .sentinel, .sentinel, .pinned], laidTests := true, laidLooks := .later }
def RecoverBlocksCardSaid : Prop := Claim7.holds Tryz.pinned (.plain (OpenSpec.ofChange recoverBlocksSpec)) recoverBlocksCard

/-- THE TIED CARD OF 'stelelaw45.RecoverStreams'. -/
def recoverStreamsCard : Claim7 := { stood := { row := recoverStreamsRow, standIns := [], harness := (true, "7ab08085e52f2c8133e78cfb79b133afe326e833cd80d8bef0762afdf465080b"), looks := true }, kinds := [], alts := [], laidByText := true, laidKinds := [.data, .data, .data, .data, .sentinel, .sentinel, .pinned], laidTests := true, laidLooks := .later }
def RecoverStreamsCardSaid : Prop := Claim7.holds Tryz.pinned (.plain (OpenSpec.ofChange recoverStreamsSpec)) recoverStreamsCard

/-- THE TIED CARD OF 'stelelaw45.RecoverRanges'. -/
def recoverRangesCard : Claim7 := { stood := { row := recoverRangesRow, standIns := [], harness := (true, "7ab08085e52f2c8133e78cfb79b133afe326e833cd80d8bef0762afdf465080b"), looks := true }, kinds := [], alts := [], laidByText := true, laidKinds := [.data, .data, .data, .data, .sentinel, .sentinel, .pinned], laidTests := true, laidLooks := .later }
def RecoverRangesCardSaid : Prop := Claim7.holds Tryz.pinned (.plain (OpenSpec.ofChange recoverRangesSpec)) recoverRangesCard

/-- THE TIED CARD OF 'stelelaw45.RecoverCopies'. -/
def recoverCopiesCard : Claim7 := { stood := { row := recoverCopiesRow, standIns := [], harness := (true, "7ab08085e52f2c8133e78cfb79b133afe326e833cd80d8bef0762afdf465080b"), looks := true }, kinds := [], alts := [], laidByText := true, laidKinds := [.data, .data, .data, .data, .sentinel, .sentinel, .pinned], laidTests := true, laidLooks := .later }
def RecoverCopiesCardSaid : Prop := Claim7.holds Tryz.pinned (.plain (OpenSpec.ofChange recoverCopiesSpec)) recoverCopiesCard

/-- THE TIED CARD OF 'stelelaw45.RecoverConflicts'. -/
def recoverConflictsCard : Claim7 := { stood := { row := recoverConflictsRow, standIns := [], harness := (true, "7ab08085e52f2c8133e78cfb79b133afe326e833cd80d8bef0762afdf465080b"), looks := true }, kinds := [], alts := [], laidByText := true, laidKinds := [.data, .data, .data, .data, .sentinel, .sentinel, .pinned], laidTests := true, laidLooks := .later }
def RecoverConflictsCardSaid : Prop := Claim7.holds Tryz.pinned (.plain (OpenSpec.ofChange recoverConflictsSpec)) recoverConflictsCard

/-- THE TIED CARD OF 'stelelaw45.RecoverSealed'. -/
def recoverSealedCard : Claim7 := { stood := { row := recoverSealedRow, standIns := [], harness := (true, "7ab08085e52f2c8133e78cfb79b133afe326e833cd80d8bef0762afdf465080b"), looks := true }, kinds := [], alts := [], laidByText := true, laidKinds := [.data, .data, .data, .data, .sentinel, .sentinel, .pinned], laidTests := true, laidLooks := .later }
def RecoverSealedCardSaid : Prop := Claim7.holds Tryz.pinned (.plain (OpenSpec.ofChange recoverSealedSpec)) recoverSealedCard

/-- THE TIED CARD OF 'stelelaw45.RecoverMonotone'. -/
def recoverMonotoneCard : Claim7 := { stood := { row := recoverMonotoneRow, standIns := [], harness := (true, "7ab08085e52f2c8133e78cfb79b133afe326e833cd80d8bef0762afdf465080b"), looks := true }, kinds := [], alts := [], laidByText := true, laidKinds := [.data, .data, .data, .data, .sentinel, .sentinel, .pinned], laidTests := true, laidLooks := .later }
def RecoverMonotoneCardSaid : Prop := Claim7.holds Tryz.pinned (.plain (OpenSpec.ofChange recoverMonotoneSpec)) recoverMonotoneCard

/-- THE SECOND FORM's CARD OF 'stelelaw45.RecoverDirectories'. -/
def recoverDirectoriesUptoCard : Claim7 := { stood := { row := recoverDirectoriesUptoRow, standIns := [], harness := (true, "7ab08085e52f2c8133e78cfb79b133afe326e833cd80d8bef0762afdf465080b"), looks := true }, kinds := [], alts := [], laidByText := true, laidKinds := [.data, .data, .data, .data, .sentinel, .sentinel, .pinned], laidTests := true, laidLooks := .later }
def RecoverDirectoriesUptoCardSaid : Prop := Claim7.holds Tryz.pinned (.plain (OpenSpec.upto recoverDirectoriesSpec)) recoverDirectoriesUptoCard

/-- THE SECOND FORM's CARD OF 'stelelaw45.RecoverBlocks'. -/
def recoverBlocksUptoCard : Claim7 := { stood := { row := recoverBlocksUptoRow, standIns := [], harness := (true, "7ab08085e52f2c8133e78cfb79b133afe326e833cd80d8bef0762afdf465080b"), looks := true }, kinds := [], alts := [], laidByText := true, laidKinds := [.data, .data, .data, .data, .sentinel, .sentinel, .pinned], laidTests := true, laidLooks := .later }
def RecoverBlocksUptoCardSaid : Prop := Claim7.holds Tryz.pinned (.plain (OpenSpec.upto recoverBlocksSpec)) recoverBlocksUptoCard

/-- THE SECOND FORM's CARD OF 'stelelaw45.RecoverStreams'. -/
def recoverStreamsUptoCard : Claim7 := { stood := { row := recoverStreamsUptoRow, standIns := [], harness := (true, "7ab08085e52f2c8133e78cfb79b133afe326e833cd80d8bef0762afdf465080b"), looks := true }, kinds := [], alts := [], laidByText := true, laidKinds := [.data, .data, .data, .data, .sentinel, .sentinel, .pinned], laidTests := true, laidLooks := .later }
def RecoverStreamsUptoCardSaid : Prop := Claim7.holds Tryz.pinned (.plain (OpenSpec.upto recoverStreamsSpec)) recoverStreamsUptoCard

/-- THE SECOND FORM's CARD OF 'stelelaw45.RecoverRanges'. -/
def recoverRangesUptoCard : Claim7 := { stood := { row := recoverRangesUptoRow, standIns := [], harness := (true, "7ab08085e52f2c8133e78cfb79b133afe326e833cd80d8bef0762afdf465080b"), looks := true }, kinds := [], alts := [], laidByText := true, laidKinds := [.data, .data, .data, .data, .sentinel, .sentinel, .pinned], laidTests := true, laidLooks := .later }
def RecoverRangesUptoCardSaid : Prop := Claim7.holds Tryz.pinned (.plain (OpenSpec.upto recoverRangesSpec)) recoverRangesUptoCard

/-- THE SECOND FORM's CARD OF 'stelelaw45.RecoverCopies'. -/
def recoverCopiesUptoCard : Claim7 := { stood := { row := recoverCopiesUptoRow, standIns := [], harness := (true, "7ab08085e52f2c8133e78cfb79b133afe326e833cd80d8bef0762afdf465080b"), looks := true }, kinds := [], alts := [], laidByText := true, laidKinds := [.data, .data, .data, .data, .sentinel, .sentinel, .pinned], laidTests := true, laidLooks := .later }
def RecoverCopiesUptoCardSaid : Prop := Claim7.holds Tryz.pinned (.plain (OpenSpec.upto recoverCopiesSpec)) recoverCopiesUptoCard

/-- THE SECOND FORM's CARD OF 'stelelaw45.RecoverConflicts'. -/
def recoverConflictsUptoCard : Claim7 := { stood := { row := recoverConflictsUptoRow, standIns := [], harness := (true, "7ab08085e52f2c8133e78cfb79b133afe326e833cd80d8bef0762afdf465080b"), looks := true }, kinds := [], alts := [], laidByText := true, laidKinds := [.data, .data, .data, .data, .sentinel, .sentinel, .pinned], laidTests := true, laidLooks := .later }
def RecoverConflictsUptoCardSaid : Prop := Claim7.holds Tryz.pinned (.plain (OpenSpec.upto recoverConflictsSpec)) recoverConflictsUptoCard

/-- THE SECOND FORM's CARD OF 'stelelaw45.RecoverSealed'. -/
def recoverSealedUptoCard : Claim7 := { stood := { row := recoverSealedUptoRow, standIns := [], harness := (true, "7ab08085e52f2c8133e78cfb79b133afe326e833cd80d8bef0762afdf465080b"), looks := true }, kinds := [], alts := [], laidByText := true, laidKinds := [.data, .data, .data, .data, .sentinel, .sentinel, .pinned], laidTests := true, laidLooks := .later }
def RecoverSealedUptoCardSaid : Prop := Claim7.holds Tryz.pinned (.plain (OpenSpec.upto recoverSealedSpec)) recoverSealedUptoCard

/-- THE SECOND FORM's CARD OF 'stelelaw45.RecoverMonotone'. -/
def recoverMonotoneUptoCard : Claim7 := { stood := { row := recoverMonotoneUptoRow, standIns := [], harness := (true, "7ab08085e52f2c8133e78cfb79b133afe326e833cd80d8bef0762afdf465080b"), looks := true }, kinds := [], alts := [], laidByText := true, laidKinds := [.data, .data, .data, .data, .sentinel, .sentinel, .pinned], laidTests := true, laidLooks := .later }
def RecoverMonotoneUptoCardSaid : Prop := Claim7.holds Tryz.pinned (.plain (OpenSpec.upto recoverMonotoneSpec)) recoverMonotoneUptoCard
end Rows
end Go.Proofs.YtpkapcijgldhhaaGreatDoor
