/-
  DERIVED. GIVEN WITH THE SEED: THE CARDS: each row of YtkfcmpngcanffaaDoorRows.lean that lists a variable, with what it lists TIED to the program's text (the seventh form; the later family's looks); each row that meets fmt, with fmt's text TOLD by the authors' own Lean function (tested against real Go, not proved from fmt's source: count such statements apart). THE CARD IS WHAT COUNTS. Prove the row's statement (the work); the ties are given (YtkfcmpngcanffaaDoorTie.lean); close each card by the builder's one call (the guide's Derived/Test/ToyasCard.lean, 'card_holds'). Laid BY PROGRAM, IN A SANDBOX (cutbox-door.mjs). By AI agents, Wed Nov 11 2026. No macro, syntax, notation, axiom, sorry.
-/
import Derived.Test.YtkfcmpngcanffaaDoorRows
import GoSem.ClaimSeven
namespace Go.Proofs.YtkfcmpngcanffaaDoor
namespace Rows

/-- THE TIED CARD OF 'nacellelaw20.AuditConfined'. -/
def auditConfinedCard : Claim7 := { stood := { row := auditConfinedRow, standIns := [], harness := (true, "cb927ab0ca92c40d4c9e695e82d744d2a078aa9bd67d3086345d2f1af7b77de6"), looks := false }, kinds := [], alts := [], laidByText := true, laidKinds := [.data], laidTests := true, laidLooks := .later }
def AuditConfinedCardSaid : Prop := Claim7.holds Tryd.pinned (.plain (OpenSpec.ofChange auditConfinedSpec)) auditConfinedCard

/-- THE TIED CARD OF 'nacellelaw20.AuditKeeps'. -/
def auditKeepsCard : Claim7 := { stood := { row := auditKeepsRow, standIns := [], harness := (true, "cb927ab0ca92c40d4c9e695e82d744d2a078aa9bd67d3086345d2f1af7b77de6"), looks := false }, kinds := [], alts := [], laidByText := true, laidKinds := [.data], laidTests := true, laidLooks := .later }
def AuditKeepsCardSaid : Prop := Claim7.holds Tryd.pinned (.plain (OpenSpec.ofChange auditKeepsSpec)) auditKeepsCard

/-- THE TIED CARD OF 'nacellelaw20.AuditPlays'. -/
def auditPlaysCard : Claim7 := { stood := { row := auditPlaysRow, standIns := [], harness := (true, "cb927ab0ca92c40d4c9e695e82d744d2a078aa9bd67d3086345d2f1af7b77de6"), looks := false }, kinds := [], alts := [], laidByText := true, laidKinds := [.data], laidTests := true, laidLooks := .later }
def AuditPlaysCardSaid : Prop := Claim7.holds Tryd.pinned (.plain (OpenSpec.ofChange auditPlaysSpec)) auditPlaysCard

/-- THE TIED CARD OF 'nacellelaw16.WalNumbers'. -/
def walNumbersCard : Claim7 := { stood := { row := walNumbersRow, standIns := [], harness := (true, "cb927ab0ca92c40d4c9e695e82d744d2a078aa9bd67d3086345d2f1af7b77de6"), looks := false }, kinds := [], alts := [], laidByText := true, laidKinds := [.data], laidTests := true, laidLooks := .later }
def WalNumbersCardSaid : Prop := Claim7.holds Tryd.pinned (.plain (OpenSpec.ofChange walNumbersSpec)) walNumbersCard

/-- THE TIED CARD OF 'nacellelaw16.WalConfined'. -/
def walConfinedCard : Claim7 := { stood := { row := walConfinedRow, standIns := [], harness := (true, "cb927ab0ca92c40d4c9e695e82d744d2a078aa9bd67d3086345d2f1af7b77de6"), looks := false }, kinds := [], alts := [], laidByText := true, laidKinds := [.data], laidTests := true, laidLooks := .later }
def WalConfinedCardSaid : Prop := Claim7.holds Tryd.pinned (.plain (OpenSpec.ofChange walConfinedSpec)) walConfinedCard

/-- THE TIED CARD OF 'nacellelaw16.WalOpens'. -/
def walOpensCard : Claim7 := { stood := { row := walOpensRow, standIns := [], harness := (true, "cb927ab0ca92c40d4c9e695e82d744d2a078aa9bd67d3086345d2f1af7b77de6"), looks := false }, kinds := [], alts := [], laidByText := true, laidKinds := [.data], laidTests := true, laidLooks := .later }
def WalOpensCardSaid : Prop := Claim7.holds Tryd.pinned (.plain (OpenSpec.ofChange walOpensSpec)) walOpensCard

/-- THE TIED CARD OF 'nacellelaw16.WalFull'. -/
def walFullCard : Claim7 := { stood := { row := walFullRow, standIns := [], harness := (true, "cb927ab0ca92c40d4c9e695e82d744d2a078aa9bd67d3086345d2f1af7b77de6"), looks := false }, kinds := [], alts := [], laidByText := true, laidKinds := [.data], laidTests := true, laidLooks := .later }
def WalFullCardSaid : Prop := Claim7.holds Tryd.pinned (.plain (OpenSpec.ofChange walFullSpec)) walFullCard

/-- THE TIED CARD OF 'nacellelaw16.WalCrashes'. -/
def walCrashesCard : Claim7 := { stood := { row := walCrashesRow, standIns := [], harness := (true, "cb927ab0ca92c40d4c9e695e82d744d2a078aa9bd67d3086345d2f1af7b77de6"), looks := false }, kinds := [], alts := [], laidByText := true, laidKinds := [.data], laidTests := true, laidLooks := .later }
def WalCrashesCardSaid : Prop := Claim7.holds Tryd.pinned (.plain (OpenSpec.ofChange walCrashesSpec)) walCrashesCard

/-- THE TIED CARD OF 'nacellelaw16.WalTwice'. -/
def walTwiceCard : Claim7 := { stood := { row := walTwiceRow, standIns := [], harness := (true, "cb927ab0ca92c40d4c9e695e82d744d2a078aa9bd67d3086345d2f1af7b77de6"), looks := false }, kinds := [], alts := [], laidByText := true, laidKinds := [.data], laidTests := true, laidLooks := .later }
def WalTwiceCardSaid : Prop := Claim7.holds Tryd.pinned (.plain (OpenSpec.ofChange walTwiceSpec)) walTwiceCard

/-- THE SECOND FORM's CARD OF 'nacellelaw20.AuditConfined'. -/
def auditConfinedUptoCard : Claim7 := { stood := { row := auditConfinedUptoRow, standIns := [], harness := (true, "cb927ab0ca92c40d4c9e695e82d744d2a078aa9bd67d3086345d2f1af7b77de6"), looks := false }, kinds := [], alts := [], laidByText := true, laidKinds := [.data], laidTests := true, laidLooks := .later }
def AuditConfinedUptoCardSaid : Prop := Claim7.holds Tryd.pinned (.plain (OpenSpec.upto auditConfinedSpec)) auditConfinedUptoCard

/-- THE SECOND FORM's CARD OF 'nacellelaw20.AuditKeeps'. -/
def auditKeepsUptoCard : Claim7 := { stood := { row := auditKeepsUptoRow, standIns := [], harness := (true, "cb927ab0ca92c40d4c9e695e82d744d2a078aa9bd67d3086345d2f1af7b77de6"), looks := false }, kinds := [], alts := [], laidByText := true, laidKinds := [.data], laidTests := true, laidLooks := .later }
def AuditKeepsUptoCardSaid : Prop := Claim7.holds Tryd.pinned (.plain (OpenSpec.upto auditKeepsSpec)) auditKeepsUptoCard

/-- THE SECOND FORM's CARD OF 'nacellelaw20.AuditPlays'. -/
def auditPlaysUptoCard : Claim7 := { stood := { row := auditPlaysUptoRow, standIns := [], harness := (true, "cb927ab0ca92c40d4c9e695e82d744d2a078aa9bd67d3086345d2f1af7b77de6"), looks := false }, kinds := [], alts := [], laidByText := true, laidKinds := [.data], laidTests := true, laidLooks := .later }
def AuditPlaysUptoCardSaid : Prop := Claim7.holds Tryd.pinned (.plain (OpenSpec.upto auditPlaysSpec)) auditPlaysUptoCard

/-- THE SECOND FORM's CARD OF 'nacellelaw16.WalNumbers'. -/
def walNumbersUptoCard : Claim7 := { stood := { row := walNumbersUptoRow, standIns := [], harness := (true, "cb927ab0ca92c40d4c9e695e82d744d2a078aa9bd67d3086345d2f1af7b77de6"), looks := false }, kinds := [], alts := [], laidByText := true, laidKinds := [.data], laidTests := true, laidLooks := .later }
def WalNumbersUptoCardSaid : Prop := Claim7.holds Tryd.pinned (.plain (OpenSpec.upto walNumbersSpec)) walNumbersUptoCard

/-- THE SECOND FORM's CARD OF 'nacellelaw16.WalConfined'. -/
def walConfinedUptoCard : Claim7 := { stood := { row := walConfinedUptoRow, standIns := [], harness := (true, "cb927ab0ca92c40d4c9e695e82d744d2a078aa9bd67d3086345d2f1af7b77de6"), looks := false }, kinds := [], alts := [], laidByText := true, laidKinds := [.data], laidTests := true, laidLooks := .later }
def WalConfinedUptoCardSaid : Prop := Claim7.holds Tryd.pinned (.plain (OpenSpec.upto walConfinedSpec)) walConfinedUptoCard

/-- THE SECOND FORM's CARD OF 'nacellelaw16.WalOpens'. -/
def walOpensUptoCard : Claim7 := { stood := { row := walOpensUptoRow, standIns := [], harness := (true, "cb927ab0ca92c40d4c9e695e82d744d2a078aa9bd67d3086345d2f1af7b77de6"), looks := false }, kinds := [], alts := [], laidByText := true, laidKinds := [.data], laidTests := true, laidLooks := .later }
def WalOpensUptoCardSaid : Prop := Claim7.holds Tryd.pinned (.plain (OpenSpec.upto walOpensSpec)) walOpensUptoCard

/-- THE SECOND FORM's CARD OF 'nacellelaw16.WalFull'. -/
def walFullUptoCard : Claim7 := { stood := { row := walFullUptoRow, standIns := [], harness := (true, "cb927ab0ca92c40d4c9e695e82d744d2a078aa9bd67d3086345d2f1af7b77de6"), looks := false }, kinds := [], alts := [], laidByText := true, laidKinds := [.data], laidTests := true, laidLooks := .later }
def WalFullUptoCardSaid : Prop := Claim7.holds Tryd.pinned (.plain (OpenSpec.upto walFullSpec)) walFullUptoCard

/-- THE SECOND FORM's CARD OF 'nacellelaw16.WalCrashes'. -/
def walCrashesUptoCard : Claim7 := { stood := { row := walCrashesUptoRow, standIns := [], harness := (true, "cb927ab0ca92c40d4c9e695e82d744d2a078aa9bd67d3086345d2f1af7b77de6"), looks := false }, kinds := [], alts := [], laidByText := true, laidKinds := [.data], laidTests := true, laidLooks := .later }
def WalCrashesUptoCardSaid : Prop := Claim7.holds Tryd.pinned (.plain (OpenSpec.upto walCrashesSpec)) walCrashesUptoCard

/-- THE SECOND FORM's CARD OF 'nacellelaw16.WalTwice'. -/
def walTwiceUptoCard : Claim7 := { stood := { row := walTwiceUptoRow, standIns := [], harness := (true, "cb927ab0ca92c40d4c9e695e82d744d2a078aa9bd67d3086345d2f1af7b77de6"), looks := false }, kinds := [], alts := [], laidByText := true, laidKinds := [.data], laidTests := true, laidLooks := .later }
def WalTwiceUptoCardSaid : Prop := Claim7.holds Tryd.pinned (.plain (OpenSpec.upto walTwiceSpec)) walTwiceUptoCard
end Rows
end Go.Proofs.YtkfcmpngcanffaaDoor
