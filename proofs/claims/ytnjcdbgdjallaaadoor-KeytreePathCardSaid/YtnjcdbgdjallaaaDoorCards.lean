/-
  DERIVED. GIVEN WITH THE SEED: THE CARDS: each row of YtnjcdbgdjallaaaDoorRows.lean that lists a variable, with what it lists TIED to the program's text (the seventh form; the later family's looks); each row that meets fmt, with fmt's text TOLD by the authors' own Lean function (tested against real Go, not proved from fmt's source: count such statements apart). THE CARD IS WHAT COUNTS. Prove the row's statement (the work); the ties are given (YtnjcdbgdjallaaaDoorTie.lean); close each card by the builder's one call (the guide's Derived/Test/ToyasCard.lean, 'card_holds'). Laid BY PROGRAM, IN A SANDBOX (cutbox-door.mjs). By AI agents, Wed Nov 11 2026. No macro, syntax, notation, axiom, sorry.
-/
import Derived.Test.YtnjcdbgdjallaaaDoorRows
import GoSem.ClaimSeven
namespace Go.Proofs.YtnjcdbgdjallaaaDoor
namespace Rows

/-- THE TIED CARD OF 'stelelaw30.KeytreeRoot'. -/
def keytreeRootCard : Claim7 := { stood := { row := keytreeRootRow, standIns := [], harness := (true, "c5e98da210880857f4bc01f99570cb94ee50c9590b4e452f2e93781fd66bccda"), looks := false }, kinds := [], alts := [], laidByText := true, laidKinds := [.data, .data, .data], laidTests := true, laidLooks := .later }
def KeytreeRootCardSaid : Prop := Claim7.holds Tryd.pinned (.plain (OpenSpec.ofChange keytreeRootSpec)) keytreeRootCard

/-- THE TIED CARD OF 'stelelaw30.KeytreeSign'. -/
def keytreeSignCard : Claim7 := { stood := { row := keytreeSignRow, standIns := [], harness := (true, "c5e98da210880857f4bc01f99570cb94ee50c9590b4e452f2e93781fd66bccda"), looks := false }, kinds := [], alts := [], laidByText := true, laidKinds := [.data, .data, .data], laidTests := true, laidLooks := .later }
def KeytreeSignCardSaid : Prop := Claim7.holds Tryd.pinned (.plain (OpenSpec.ofChange keytreeSignSpec)) keytreeSignCard

/-- THE TIED CARD OF 'stelelaw30.KeytreePath'. -/
def keytreePathCard : Claim7 := { stood := { row := keytreePathRow, standIns := [], harness := (true, "c5e98da210880857f4bc01f99570cb94ee50c9590b4e452f2e93781fd66bccda"), looks := false }, kinds := [], alts := [], laidByText := true, laidKinds := [.data, .data, .data], laidTests := true, laidLooks := .later }
def KeytreePathCardSaid : Prop := Claim7.holds Tryd.pinned (.plain (OpenSpec.ofChange keytreePathSpec)) keytreePathCard

/-- THE SECOND FORM's CARD OF 'stelelaw30.KeytreeRoot'. -/
def keytreeRootUptoCard : Claim7 := { stood := { row := keytreeRootUptoRow, standIns := [], harness := (true, "c5e98da210880857f4bc01f99570cb94ee50c9590b4e452f2e93781fd66bccda"), looks := false }, kinds := [], alts := [], laidByText := true, laidKinds := [.data, .data, .data], laidTests := true, laidLooks := .later }
def KeytreeRootUptoCardSaid : Prop := Claim7.holds Tryd.pinned (.plain (OpenSpec.upto keytreeRootSpec)) keytreeRootUptoCard

/-- THE SECOND FORM's CARD OF 'stelelaw30.KeytreeSign'. -/
def keytreeSignUptoCard : Claim7 := { stood := { row := keytreeSignUptoRow, standIns := [], harness := (true, "c5e98da210880857f4bc01f99570cb94ee50c9590b4e452f2e93781fd66bccda"), looks := false }, kinds := [], alts := [], laidByText := true, laidKinds := [.data, .data, .data], laidTests := true, laidLooks := .later }
def KeytreeSignUptoCardSaid : Prop := Claim7.holds Tryd.pinned (.plain (OpenSpec.upto keytreeSignSpec)) keytreeSignUptoCard

/-- THE SECOND FORM's CARD OF 'stelelaw30.KeytreePath'. -/
def keytreePathUptoCard : Claim7 := { stood := { row := keytreePathUptoRow, standIns := [], harness := (true, "c5e98da210880857f4bc01f99570cb94ee50c9590b4e452f2e93781fd66bccda"), looks := false }, kinds := [], alts := [], laidByText := true, laidKinds := [.data, .data, .data], laidTests := true, laidLooks := .later }
def KeytreePathUptoCardSaid : Prop := Claim7.holds Tryd.pinned (.plain (OpenSpec.upto keytreePathSpec)) keytreePathUptoCard
end Rows
end Go.Proofs.YtnjcdbgdjallaaaDoor
