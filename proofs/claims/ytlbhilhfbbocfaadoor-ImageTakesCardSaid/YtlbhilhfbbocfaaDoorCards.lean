/-
  DERIVED. GIVEN WITH THE SEED: THE CARDS: each row of YtlbhilhfbbocfaaDoorRows.lean that lists a variable, with what it lists TIED to the program's text (the seventh form; the later family's looks); each row that meets fmt, with fmt's text TOLD by the authors' own Lean function (tested against real Go, not proved from fmt's source: count such statements apart). THE CARD IS WHAT COUNTS. Prove the row's statement (the work); the ties are given (YtlbhilhfbbocfaaDoorTie.lean); close each card by the builder's one call (the guide's Derived/Test/ToyasCard.lean, 'card_holds'). Laid BY PROGRAM, IN A SANDBOX (cutbox-door.mjs). By AI agents, Wed Nov 11 2026. No macro, syntax, notation, axiom, sorry.
-/
import Derived.Test.YtlbhilhfbbocfaaDoorRows
import GoSem.ClaimSeven
namespace Go.Proofs.YtlbhilhfbbocfaaDoor
namespace Rows

/-- THE TIED CARD OF 'nacellelaw19.ImageTakes'. -/
def imageTakesCard : Claim7 := { stood := { row := imageTakesRow, standIns := [], harness := (true, "456b0b712aceb804fed8f89521cb5d4b2f6322ca146a1b4a114f7a104056d91a"), looks := true }, kinds := [], alts := [], laidByText := true, laidKinds := [.data, .data, .data, .data, .handle], laidTests := true, laidLooks := .later }
def ImageTakesCardSaid : Prop := Claim7.holds Tryd.pinned (.plain (OpenSpec.ofChange imageTakesSpec)) imageTakesCard

/-- THE TIED CARD OF 'nacellelaw19.ImageChecks'. -/
def imageChecksCard : Claim7 := { stood := { row := imageChecksRow, standIns := [], harness := (true, "456b0b712aceb804fed8f89521cb5d4b2f6322ca146a1b4a114f7a104056d91a"), looks := true }, kinds := [], alts := [], laidByText := true, laidKinds := [.data, .data, .data, .data, .handle], laidTests := true, laidLooks := .later }
def ImageChecksCardSaid : Prop := Claim7.holds Tryd.pinned (.plain (OpenSpec.ofChange imageChecksSpec)) imageChecksCard

/-- THE TIED CARD OF 'nacellelaw19.ImageRight'. -/
def imageRightCard : Claim7 := { stood := { row := imageRightRow, standIns := [], harness := (true, "456b0b712aceb804fed8f89521cb5d4b2f6322ca146a1b4a114f7a104056d91a"), looks := true }, kinds := [], alts := [], laidByText := true, laidKinds := [.data, .data, .data, .data, .handle], laidTests := true, laidLooks := .later }
def ImageRightCardSaid : Prop := Claim7.holds Tryd.pinned (.plain (OpenSpec.ofChange imageRightSpec)) imageRightCard

/-- THE TIED CARD OF 'nacellelaw19.ImagePieces'. -/
def imagePiecesCard : Claim7 := { stood := { row := imagePiecesRow, standIns := [], harness := (true, "456b0b712aceb804fed8f89521cb5d4b2f6322ca146a1b4a114f7a104056d91a"), looks := true }, kinds := [], alts := [], laidByText := true, laidKinds := [.data, .data, .data, .data, .handle], laidTests := true, laidLooks := .later }
def ImagePiecesCardSaid : Prop := Claim7.holds Tryd.pinned (.plain (OpenSpec.ofChange imagePiecesSpec)) imagePiecesCard

/-- THE TIED CARD OF 'nacellelaw19.ImageBack'. -/
def imageBackCard : Claim7 := { stood := { row := imageBackRow, standIns := [], harness := (true, "456b0b712aceb804fed8f89521cb5d4b2f6322ca146a1b4a114f7a104056d91a"), looks := true }, kinds := [], alts := [], laidByText := true, laidKinds := [.data, .data, .data, .data, .handle], laidTests := true, laidLooks := .later }
def ImageBackCardSaid : Prop := Claim7.holds Tryd.pinned (.plain (OpenSpec.ofChange imageBackSpec)) imageBackCard

/-- THE SECOND FORM's CARD OF 'nacellelaw19.ImageTakes'. -/
def imageTakesUptoCard : Claim7 := { stood := { row := imageTakesUptoRow, standIns := [], harness := (true, "456b0b712aceb804fed8f89521cb5d4b2f6322ca146a1b4a114f7a104056d91a"), looks := true }, kinds := [], alts := [], laidByText := true, laidKinds := [.data, .data, .data, .data, .handle], laidTests := true, laidLooks := .later }
def ImageTakesUptoCardSaid : Prop := Claim7.holds Tryd.pinned (.plain (OpenSpec.upto imageTakesSpec)) imageTakesUptoCard

/-- THE SECOND FORM's CARD OF 'nacellelaw19.ImageChecks'. -/
def imageChecksUptoCard : Claim7 := { stood := { row := imageChecksUptoRow, standIns := [], harness := (true, "456b0b712aceb804fed8f89521cb5d4b2f6322ca146a1b4a114f7a104056d91a"), looks := true }, kinds := [], alts := [], laidByText := true, laidKinds := [.data, .data, .data, .data, .handle], laidTests := true, laidLooks := .later }
def ImageChecksUptoCardSaid : Prop := Claim7.holds Tryd.pinned (.plain (OpenSpec.upto imageChecksSpec)) imageChecksUptoCard

/-- THE SECOND FORM's CARD OF 'nacellelaw19.ImageRight'. -/
def imageRightUptoCard : Claim7 := { stood := { row := imageRightUptoRow, standIns := [], harness := (true, "456b0b712aceb804fed8f89521cb5d4b2f6322ca146a1b4a114f7a104056d91a"), looks := true }, kinds := [], alts := [], laidByText := true, laidKinds := [.data, .data, .data, .data, .handle], laidTests := true, laidLooks := .later }
def ImageRightUptoCardSaid : Prop := Claim7.holds Tryd.pinned (.plain (OpenSpec.upto imageRightSpec)) imageRightUptoCard

/-- THE SECOND FORM's CARD OF 'nacellelaw19.ImagePieces'. -/
def imagePiecesUptoCard : Claim7 := { stood := { row := imagePiecesUptoRow, standIns := [], harness := (true, "456b0b712aceb804fed8f89521cb5d4b2f6322ca146a1b4a114f7a104056d91a"), looks := true }, kinds := [], alts := [], laidByText := true, laidKinds := [.data, .data, .data, .data, .handle], laidTests := true, laidLooks := .later }
def ImagePiecesUptoCardSaid : Prop := Claim7.holds Tryd.pinned (.plain (OpenSpec.upto imagePiecesSpec)) imagePiecesUptoCard

/-- THE SECOND FORM's CARD OF 'nacellelaw19.ImageBack'. -/
def imageBackUptoCard : Claim7 := { stood := { row := imageBackUptoRow, standIns := [], harness := (true, "456b0b712aceb804fed8f89521cb5d4b2f6322ca146a1b4a114f7a104056d91a"), looks := true }, kinds := [], alts := [], laidByText := true, laidKinds := [.data, .data, .data, .data, .handle], laidTests := true, laidLooks := .later }
def ImageBackUptoCardSaid : Prop := Claim7.holds Tryd.pinned (.plain (OpenSpec.upto imageBackSpec)) imageBackUptoCard
end Rows
end Go.Proofs.YtlbhilhfbbocfaaDoor
