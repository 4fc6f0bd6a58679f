/-
  DERIVED. GIVEN WITH THE SEED: THE CARDS: each row of YtomoejbamegpoaaDoorRows.lean that lists a variable, with what it lists TIED to the program's text (the seventh form; the later family's looks); each row that meets fmt, with fmt's text TOLD by the authors' own Lean function (tested against real Go, not proved from fmt's source: count such statements apart). THE CARD IS WHAT COUNTS. Prove the row's statement (the work); the ties are given (YtomoejbamegpoaaDoorTie.lean); close each card by the builder's one call (the guide's Derived/Test/ToyasCard.lean, 'card_holds'). Laid BY PROGRAM, IN A SANDBOX (cutbox-door.mjs). By AI agents, Wed Nov 11 2026. No macro, syntax, notation, axiom, sorry.
-/
import Derived.Test.YtomoejbamegpoaaDoorRows
import GoSem.ClaimSeven
namespace Go.Proofs.YtomoejbamegpoaaDoor
namespace Rows

/-- THE TIED CARD OF 'nacellelaw10.FilterWider'. -/
def filterWiderCard : Claim7 := { stood := { row := filterWiderRow, standIns := [], harness := (true, "bb6664c2918078fd7cb31ed2a72a1f2209e9aec2e9102d178f8ad4f996eeae01"), looks := true }, kinds := [], alts := [], laidByText := true, laidKinds := [.data, .data, .data, .handle], laidTests := true, laidLooks := .later }
def FilterWiderCardSaid : Prop := Claim7.holds Tryd.pinned (.plain (OpenSpec.ofChange filterWiderSpec)) filterWiderCard

/-- THE TIED CARD OF 'nacellelaw10.FilterCaps'. -/
def filterCapsCard : Claim7 := { stood := { row := filterCapsRow, standIns := [], harness := (true, "bb6664c2918078fd7cb31ed2a72a1f2209e9aec2e9102d178f8ad4f996eeae01"), looks := true }, kinds := [], alts := [], laidByText := true, laidKinds := [.data, .data, .data, .handle], laidTests := true, laidLooks := .later }
def FilterCapsCardSaid : Prop := Claim7.holds Tryd.pinned (.plain (OpenSpec.ofChange filterCapsSpec)) filterCapsCard

/-- THE TIED CARD OF 'nacellelaw10.FilterCapped'. -/
def filterCappedCard : Claim7 := { stood := { row := filterCappedRow, standIns := [], harness := (true, "bb6664c2918078fd7cb31ed2a72a1f2209e9aec2e9102d178f8ad4f996eeae01"), looks := true }, kinds := [], alts := [], laidByText := true, laidKinds := [.data, .data, .data, .handle], laidTests := true, laidLooks := .later }
def FilterCappedCardSaid : Prop := Claim7.holds Tryd.pinned (.plain (OpenSpec.ofChange filterCappedSpec)) filterCappedCard

/-- THE TIED CARD OF 'nacellelaw10.FilterAll'. -/
def filterAllCard : Claim7 := { stood := { row := filterAllRow, standIns := [], harness := (true, "bb6664c2918078fd7cb31ed2a72a1f2209e9aec2e9102d178f8ad4f996eeae01"), looks := true }, kinds := [], alts := [], laidByText := true, laidKinds := [.data, .data, .data, .handle], laidTests := true, laidLooks := .later }
def FilterAllCardSaid : Prop := Claim7.holds Tryd.pinned (.plain (OpenSpec.ofChange filterAllSpec)) filterAllCard

/-- THE TIED CARD OF 'nacellelaw10.FilterChecks'. -/
def filterChecksCard : Claim7 := { stood := { row := filterChecksRow, standIns := [], harness := (true, "bb6664c2918078fd7cb31ed2a72a1f2209e9aec2e9102d178f8ad4f996eeae01"), looks := true }, kinds := [], alts := [], laidByText := true, laidKinds := [.data, .data, .data, .handle], laidTests := true, laidLooks := .later }
def FilterChecksCardSaid : Prop := Claim7.holds Tryd.pinned (.plain (OpenSpec.ofChange filterChecksSpec)) filterChecksCard

/-- THE TIED CARD OF 'nacellelaw10.FilterPasses'. -/
def filterPassesCard : Claim7 := { stood := { row := filterPassesRow, standIns := [], harness := (true, "bb6664c2918078fd7cb31ed2a72a1f2209e9aec2e9102d178f8ad4f996eeae01"), looks := true }, kinds := [], alts := [], laidByText := true, laidKinds := [.data, .data, .data, .handle], laidTests := true, laidLooks := .later }
def FilterPassesCardSaid : Prop := Claim7.holds Tryd.pinned (.plain (OpenSpec.ofChange filterPassesSpec)) filterPassesCard

/-- THE TIED CARD OF 'nacellelaw07.CodeNames'. -/
def codeNamesCard : Claim7 := { stood := { row := codeNamesRow, standIns := [], harness := (true, "bb6664c2918078fd7cb31ed2a72a1f2209e9aec2e9102d178f8ad4f996eeae01"), looks := true }, kinds := [], alts := [], laidByText := true, laidKinds := [.data, .data, .data, .handle], laidTests := true, laidLooks := .later }
def CodeNamesCardSaid : Prop := Claim7.holds Tryd.pinned (.plain (OpenSpec.ofChange codeNamesSpec)) codeNamesCard

/-- THE TIED CARD OF 'nacellelaw07.CodeChecks'. -/
def codeChecksCard : Claim7 := { stood := { row := codeChecksRow, standIns := [], harness := (true, "bb6664c2918078fd7cb31ed2a72a1f2209e9aec2e9102d178f8ad4f996eeae01"), looks := true }, kinds := [], alts := [], laidByText := true, laidKinds := [.data, .data, .data, .handle], laidTests := true, laidLooks := .later }
def CodeChecksCardSaid : Prop := Claim7.holds Tryd.pinned (.plain (OpenSpec.ofChange codeChecksSpec)) codeChecksCard

/-- THE TIED CARD OF 'nacellelaw07.CodeDecodes'. -/
def codeDecodesCard : Claim7 := { stood := { row := codeDecodesRow, standIns := [], harness := (true, "bb6664c2918078fd7cb31ed2a72a1f2209e9aec2e9102d178f8ad4f996eeae01"), looks := true }, kinds := [], alts := [], laidByText := true, laidKinds := [.data, .data, .data, .handle], laidTests := true, laidLooks := .later }
def CodeDecodesCardSaid : Prop := Claim7.holds Tryd.pinned (.plain (OpenSpec.ofChange codeDecodesSpec)) codeDecodesCard

/-- THE TIED CARD OF 'nacellelaw07.CodeBack'. -/
def codeBackCard : Claim7 := { stood := { row := codeBackRow, standIns := [], harness := (true, "bb6664c2918078fd7cb31ed2a72a1f2209e9aec2e9102d178f8ad4f996eeae01"), looks := true }, kinds := [], alts := [], laidByText := true, laidKinds := [.data, .data, .data, .handle], laidTests := true, laidLooks := .later }
def CodeBackCardSaid : Prop := Claim7.holds Tryd.pinned (.plain (OpenSpec.ofChange codeBackSpec)) codeBackCard

/-- THE TIED CARD OF 'nacellelaw07.CodeGoesOn'. -/
def codeGoesOnCard : Claim7 := { stood := { row := codeGoesOnRow, standIns := [], harness := (true, "bb6664c2918078fd7cb31ed2a72a1f2209e9aec2e9102d178f8ad4f996eeae01"), looks := true }, kinds := [], alts := [], laidByText := true, laidKinds := [.data, .data, .data, .handle], laidTests := true, laidLooks := .later }
def CodeGoesOnCardSaid : Prop := Claim7.holds Tryd.pinned (.plain (OpenSpec.ofChange codeGoesOnSpec)) codeGoesOnCard

/-- THE SECOND FORM's CARD OF 'nacellelaw10.FilterWider'. -/
def filterWiderUptoCard : Claim7 := { stood := { row := filterWiderUptoRow, standIns := [], harness := (true, "bb6664c2918078fd7cb31ed2a72a1f2209e9aec2e9102d178f8ad4f996eeae01"), looks := true }, kinds := [], alts := [], laidByText := true, laidKinds := [.data, .data, .data, .handle], laidTests := true, laidLooks := .later }
def FilterWiderUptoCardSaid : Prop := Claim7.holds Tryd.pinned (.plain (OpenSpec.upto filterWiderSpec)) filterWiderUptoCard

/-- THE SECOND FORM's CARD OF 'nacellelaw10.FilterCaps'. -/
def filterCapsUptoCard : Claim7 := { stood := { row := filterCapsUptoRow, standIns := [], harness := (true, "bb6664c2918078fd7cb31ed2a72a1f2209e9aec2e9102d178f8ad4f996eeae01"), looks := true }, kinds := [], alts := [], laidByText := true, laidKinds := [.data, .data, .data, .handle], laidTests := true, laidLooks := .later }
def FilterCapsUptoCardSaid : Prop := Claim7.holds Tryd.pinned (.plain (OpenSpec.upto filterCapsSpec)) filterCapsUptoCard

/-- THE SECOND FORM's CARD OF 'nacellelaw10.FilterCapped'. -/
def filterCappedUptoCard : Claim7 := { stood := { row := filterCappedUptoRow, standIns := [], harness := (true, "bb6664c2918078fd7cb31ed2a72a1f2209e9aec2e9102d178f8ad4f996eeae01"), looks := true }, kinds := [], alts := [], laidByText := true, laidKinds := [.data, .data, .data, .handle], laidTests := true, laidLooks := .later }
def FilterCappedUptoCardSaid : Prop := Claim7.holds Tryd.pinned (.plain (OpenSpec.upto filterCappedSpec)) filterCappedUptoCard

/-- THE SECOND FORM's CARD OF 'nacellelaw10.FilterAll'. -/
def filterAllUptoCard : Claim7 := { stood := { row := filterAllUptoRow, standIns := [], harness := (true, "bb6664c2918078fd7cb31ed2a72a1f2209e9aec2e9102d178f8ad4f996eeae01"), looks := true }, kinds := [], alts := [], laidByText := true, laidKinds := [.data, .data, .data, .handle], laidTests := true, laidLooks := .later }
def FilterAllUptoCardSaid : Prop := Claim7.holds Tryd.pinned (.plain (OpenSpec.upto filterAllSpec)) filterAllUptoCard

/-- THE SECOND FORM's CARD OF 'nacellelaw10.FilterChecks'. -/
def filterChecksUptoCard : Claim7 := { stood := { row := filterChecksUptoRow, standIns := [], harness := (true, "bb6664c2918078fd7cb31ed2a72a1f2209e9aec2e9102d178f8ad4f996eeae01"), looks := true }, kinds := [], alts := [], laidByText := true, laidKinds := [.data, .data, .data, .handle], laidTests := true, laidLooks := .later }
def FilterChecksUptoCardSaid : Prop := Claim7.holds Tryd.pinned (.plain (OpenSpec.upto filterChecksSpec)) filterChecksUptoCard

/-- THE SECOND FORM's CARD OF 'nacellelaw10.FilterPasses'. -/
def filterPassesUptoCard : Claim7 := { stood := { row := filterPassesUptoRow, standIns := [], harness := (true, "bb6664c2918078fd7cb31ed2a72a1f2209e9aec2e9102d178f8ad4f996eeae01"), looks := true }, kinds := [], alts := [], laidByText := true, laidKinds := [.data, .data, .data, .handle], laidTests := true, laidLooks := .later }
def FilterPassesUptoCardSaid : Prop := Claim7.holds Tryd.pinned (.plain (OpenSpec.upto filterPassesSpec)) filterPassesUptoCard

/-- THE SECOND FORM's CARD OF 'nacellelaw07.CodeNames'. -/
def codeNamesUptoCard : Claim7 := { stood := { row := codeNamesUptoRow, standIns := [], harness := (true, "bb6664c2918078fd7cb31ed2a72a1f2209e9aec2e9102d178f8ad4f996eeae01"), looks := true }, kinds := [], alts := [], laidByText := true, laidKinds := [.data, .data, .data, .handle], laidTests := true, laidLooks := .later }
def CodeNamesUptoCardSaid : Prop := Claim7.holds Tryd.pinned (.plain (OpenSpec.upto codeNamesSpec)) codeNamesUptoCard

/-- THE SECOND FORM's CARD OF 'nacellelaw07.CodeChecks'. -/
def codeChecksUptoCard : Claim7 := { stood := { row := codeChecksUptoRow, standIns := [], harness := (true, "bb6664c2918078fd7cb31ed2a72a1f2209e9aec2e9102d178f8ad4f996eeae01"), looks := true }, kinds := [], alts := [], laidByText := true, laidKinds := [.data, .data, .data, .handle], laidTests := true, laidLooks := .later }
def CodeChecksUptoCardSaid : Prop := Claim7.holds Tryd.pinned (.plain (OpenSpec.upto codeChecksSpec)) codeChecksUptoCard

/-- THE SECOND FORM's CARD OF 'nacellelaw07.CodeDecodes'. -/
def codeDecodesUptoCard : Claim7 := { stood := { row := codeDecodesUptoRow, standIns := [], harness := (true, "bb6664c2918078fd7cb31ed2a72a1f2209e9aec2e9102d178f8ad4f996eeae01"), looks := true }, kinds := [], alts := [], laidByText := true, laidKinds := [.data, .data, .data, .handle], laidTests := true, laidLooks := .later }
def CodeDecodesUptoCardSaid : Prop := Claim7.holds Tryd.pinned (.plain (OpenSpec.upto codeDecodesSpec)) codeDecodesUptoCard

/-- THE SECOND FORM's CARD OF 'nacellelaw07.CodeBack'. -/
def codeBackUptoCard : Claim7 := { stood := { row := codeBackUptoRow, standIns := [], harness := (true, "bb6664c2918078fd7cb31ed2a72a1f2209e9aec2e9102d178f8ad4f996eeae01"), looks := true }, kinds := [], alts := [], laidByText := true, laidKinds := [.data, .data, .data, .handle], laidTests := true, laidLooks := .later }
def CodeBackUptoCardSaid : Prop := Claim7.holds Tryd.pinned (.plain (OpenSpec.upto codeBackSpec)) codeBackUptoCard

/-- THE SECOND FORM's CARD OF 'nacellelaw07.CodeGoesOn'. -/
def codeGoesOnUptoCard : Claim7 := { stood := { row := codeGoesOnUptoRow, standIns := [], harness := (true, "bb6664c2918078fd7cb31ed2a72a1f2209e9aec2e9102d178f8ad4f996eeae01"), looks := true }, kinds := [], alts := [], laidByText := true, laidKinds := [.data, .data, .data, .handle], laidTests := true, laidLooks := .later }
def CodeGoesOnUptoCardSaid : Prop := Claim7.holds Tryd.pinned (.plain (OpenSpec.upto codeGoesOnSpec)) codeGoesOnUptoCard
end Rows
end Go.Proofs.YtomoejbamegpoaaDoor
