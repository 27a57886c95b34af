/-
  DERIVED. GIVEN WITH THE SEED: THE CARDS: each row of YtnjcdbgdjallaaaGreatDoorRows.lean that lists a variable, with what it lists TIED to the program's text (the seventh form; the later family's looks); each row that meets fmt, with fmt's text TOLD by the authors' own Lean function (tested against real Go, not proved from fmt's source: count such statements apart). THE CARD IS WHAT COUNTS. Prove the row's statement (the work); the ties are given (YtnjcdbgdjallaaaGreatDoorTie.lean); close each card by the builder's one call (the guide's Derived/Test/ToyasCard.lean, 'card_holds'). Laid BY PROGRAM, IN A SANDBOX (cutbox-door.mjs). By AI agents, Wed Nov 11 2026. No macro, syntax, notation, axiom, sorry.
-/
import Derived.Test.YtnjcdbgdjallaaaGreatDoorRows
import GoSem.ClaimSeven
namespace Go.Proofs.YtnjcdbgdjallaaaGreatDoor
namespace Rows

/-- THE TIED CARD OF 'stelelaw30.KeytreeSubtree'. -/
def keytreeSubtreeCard : Claim7 := { stood := { row := keytreeSubtreeRow, standIns := [], harness := (true, "02f9f091d85ead8cefc00ec76d40dd9286f78796518027accc5b1afca04ac333"), looks := true }, kinds := [], alts := [], laidByText := true, laidKinds := [.data, .data, .data, .data, .sentinel, .sentinel, .pinned], laidTests := true, laidLooks := .later }
def KeytreeSubtreeCardSaid : Prop := Claim7.holds Tryz.pinned (.plain (OpenSpec.ofChange keytreeSubtreeSpec)) keytreeSubtreeCard

/-- THE TIED CARD OF 'stelelaw30.KeytreeVerify'. -/
def keytreeVerifyCard : Claim7 := { stood := { row := keytreeVerifyRow, standIns := [], harness := (true, "02f9f091d85ead8cefc00ec76d40dd9286f78796518027accc5b1afca04ac333"), looks := true }, kinds := [], alts := [], laidByText := true, laidKinds := [.data, .data, .data, .data, .sentinel, .sentinel, .pinned], laidTests := true, laidLooks := .later }
def KeytreeVerifyCardSaid : Prop := Claim7.holds Tryz.pinned (.plain (OpenSpec.ofChange keytreeVerifySpec)) keytreeVerifyCard

/-- THE TIED CARD OF 'stelelaw30.KeytreeValidity'. -/
def keytreeValidityCard : Claim7 := { stood := { row := keytreeValidityRow, standIns := [], harness := (true, "02f9f091d85ead8cefc00ec76d40dd9286f78796518027accc5b1afca04ac333"), looks := true }, kinds := [], alts := [], laidByText := true, laidKinds := [.data, .data, .data, .data, .sentinel, .sentinel, .pinned], laidTests := true, laidLooks := .later }
def KeytreeValidityCardSaid : Prop := Claim7.holds Tryz.pinned (.plain (OpenSpec.ofChange keytreeValiditySpec)) keytreeValidityCard

/-- THE TIED CARD OF 'stelelaw30.KeytreeOtherMessage'. -/
def keytreeOtherMessageCard : Claim7 := { stood := { row := keytreeOtherMessageRow, standIns := [], harness := (true, "02f9f091d85ead8cefc00ec76d40dd9286f78796518027accc5b1afca04ac333"), looks := true }, kinds := [], alts := [], laidByText := true, laidKinds := [.data, .data, .data, .data, .sentinel, .sentinel, .pinned], laidTests := true, laidLooks := .later }
def KeytreeOtherMessageCardSaid : Prop := Claim7.holds Tryz.pinned (.plain (OpenSpec.ofChange keytreeOtherMessageSpec)) keytreeOtherMessageCard

/-- THE TIED CARD OF 'stelelaw30.KeytreeOtherRoot'. -/
def keytreeOtherRootCard : Claim7 := { stood := { row := keytreeOtherRootRow, standIns := [], harness := (true, "02f9f091d85ead8cefc00ec76d40dd9286f78796518027accc5b1afca04ac333"), looks := true }, kinds := [], alts := [], laidByText := true, laidKinds := [.data, .data, .data, .data, .sentinel, .sentinel, .pinned], laidTests := true, laidLooks := .later }
def KeytreeOtherRootCardSaid : Prop := Claim7.holds Tryz.pinned (.plain (OpenSpec.ofChange keytreeOtherRootSpec)) keytreeOtherRootCard

/-- THE SECOND FORM's CARD OF 'stelelaw30.KeytreeSubtree'. -/
def keytreeSubtreeUptoCard : Claim7 := { stood := { row := keytreeSubtreeUptoRow, standIns := [], harness := (true, "02f9f091d85ead8cefc00ec76d40dd9286f78796518027accc5b1afca04ac333"), looks := true }, kinds := [], alts := [], laidByText := true, laidKinds := [.data, .data, .data, .data, .sentinel, .sentinel, .pinned], laidTests := true, laidLooks := .later }
def KeytreeSubtreeUptoCardSaid : Prop := Claim7.holds Tryz.pinned (.plain (OpenSpec.upto keytreeSubtreeSpec)) keytreeSubtreeUptoCard

/-- THE SECOND FORM's CARD OF 'stelelaw30.KeytreeVerify'. -/
def keytreeVerifyUptoCard : Claim7 := { stood := { row := keytreeVerifyUptoRow, standIns := [], harness := (true, "02f9f091d85ead8cefc00ec76d40dd9286f78796518027accc5b1afca04ac333"), looks := true }, kinds := [], alts := [], laidByText := true, laidKinds := [.data, .data, .data, .data, .sentinel, .sentinel, .pinned], laidTests := true, laidLooks := .later }
def KeytreeVerifyUptoCardSaid : Prop := Claim7.holds Tryz.pinned (.plain (OpenSpec.upto keytreeVerifySpec)) keytreeVerifyUptoCard

/-- THE SECOND FORM's CARD OF 'stelelaw30.KeytreeValidity'. -/
def keytreeValidityUptoCard : Claim7 := { stood := { row := keytreeValidityUptoRow, standIns := [], harness := (true, "02f9f091d85ead8cefc00ec76d40dd9286f78796518027accc5b1afca04ac333"), looks := true }, kinds := [], alts := [], laidByText := true, laidKinds := [.data, .data, .data, .data, .sentinel, .sentinel, .pinned], laidTests := true, laidLooks := .later }
def KeytreeValidityUptoCardSaid : Prop := Claim7.holds Tryz.pinned (.plain (OpenSpec.upto keytreeValiditySpec)) keytreeValidityUptoCard

/-- THE SECOND FORM's CARD OF 'stelelaw30.KeytreeOtherMessage'. -/
def keytreeOtherMessageUptoCard : Claim7 := { stood := { row := keytreeOtherMessageUptoRow, standIns := [], harness := (true, "02f9f091d85ead8cefc00ec76d40dd9286f78796518027accc5b1afca04ac333"), looks := true }, kinds := [], alts := [], laidByText := true, laidKinds := [.data, .data, .data, .data, .sentinel, .sentinel, .pinned], laidTests := true, laidLooks := .later }
def KeytreeOtherMessageUptoCardSaid : Prop := Claim7.holds Tryz.pinned (.plain (OpenSpec.upto keytreeOtherMessageSpec)) keytreeOtherMessageUptoCard

/-- THE SECOND FORM's CARD OF 'stelelaw30.KeytreeOtherRoot'. -/
def keytreeOtherRootUptoCard : Claim7 := { stood := { row := keytreeOtherRootUptoRow, standIns := [], harness := (true, "02f9f091d85ead8cefc00ec76d40dd9286f78796518027accc5b1afca04ac333"), looks := true }, kinds := [], alts := [], laidByText := true, laidKinds := [.data, .data, .data, .data, .sentinel, .sentinel, .pinned], laidTests := true, laidLooks := .later }
def KeytreeOtherRootUptoCardSaid : Prop := Claim7.holds Tryz.pinned (.plain (OpenSpec.upto keytreeOtherRootSpec)) keytreeOtherRootUptoCard
end Rows
end Go.Proofs.YtnjcdbgdjallaaaGreatDoor
