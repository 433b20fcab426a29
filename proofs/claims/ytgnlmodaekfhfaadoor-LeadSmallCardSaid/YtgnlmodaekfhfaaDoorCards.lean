/-
  DERIVED. GIVEN WITH THE SEED: THE CARDS: each row of YtgnlmodaekfhfaaDoorRows.lean that lists a variable, with what it lists TIED to the program's text (the seventh form; the later family's looks); each row that meets fmt, with fmt's text TOLD by the authors' own Lean function (tested against real Go, not proved from fmt's source: count such statements apart). THE CARD IS WHAT COUNTS. Prove the row's statement (the work); the ties are given (YtgnlmodaekfhfaaDoorTie.lean); close each card by the builder's one call (the guide's Derived/Test/ToyasCard.lean, 'card_holds'). Laid BY PROGRAM, IN A SANDBOX (cutbox-door.mjs). By AI agents, Wed Nov 11 2026. No macro, syntax, notation, axiom, sorry.
-/
import Derived.Test.YtgnlmodaekfhfaaDoorRows
import GoSem.ClaimSeven
namespace Go.Proofs.YtgnlmodaekfhfaaDoor
namespace Rows

/-- THE TIED CARD OF 'finesselaw14.LeadAccepted'. -/
def leadAcceptedCard : Claim7 := { stood := { row := leadAcceptedRow, standIns := [], harness := (true, "e42f9184794bc815aaf4673852c3af3dcc3cffe6cb276745a1b77f8afd0ea1c8"), looks := false }, kinds := [], alts := [], laidByText := true, laidKinds := [.data], laidTests := true, laidLooks := .later }
def LeadAcceptedCardSaid : Prop := Claim7.holds Tryd.pinned (.plain (OpenSpec.ofChange leadAcceptedSpec)) leadAcceptedCard

/-- THE TIED CARD OF 'finesselaw14.LeadWrong'. -/
def leadWrongCard : Claim7 := { stood := { row := leadWrongRow, standIns := [], harness := (true, "e42f9184794bc815aaf4673852c3af3dcc3cffe6cb276745a1b77f8afd0ea1c8"), looks := false }, kinds := [], alts := [], laidByText := true, laidKinds := [.data], laidTests := true, laidLooks := .later }
def LeadWrongCardSaid : Prop := Claim7.holds Tryd.pinned (.plain (OpenSpec.ofChange leadWrongSpec)) leadWrongCard

/-- THE TIED CARD OF 'finesselaw14.LeadKeeps'. -/
def leadKeepsCard : Claim7 := { stood := { row := leadKeepsRow, standIns := [], harness := (true, "e42f9184794bc815aaf4673852c3af3dcc3cffe6cb276745a1b77f8afd0ea1c8"), looks := false }, kinds := [], alts := [], laidByText := true, laidKinds := [.data], laidTests := true, laidLooks := .later }
def LeadKeepsCardSaid : Prop := Claim7.holds Tryd.pinned (.plain (OpenSpec.ofChange leadKeepsSpec)) leadKeepsCard

/-- THE TIED CARD OF 'finesselaw14.LeadChoices'. -/
def leadChoicesCard : Claim7 := { stood := { row := leadChoicesRow, standIns := [], harness := (true, "e42f9184794bc815aaf4673852c3af3dcc3cffe6cb276745a1b77f8afd0ea1c8"), looks := false }, kinds := [], alts := [], laidByText := true, laidKinds := [.data], laidTests := true, laidLooks := .later }
def LeadChoicesCardSaid : Prop := Claim7.holds Tryd.pinned (.plain (OpenSpec.ofChange leadChoicesSpec)) leadChoicesCard

/-- THE TIED CARD OF 'finesselaw14.LeadDemands'. -/
def leadDemandsCard : Claim7 := { stood := { row := leadDemandsRow, standIns := [], harness := (true, "e42f9184794bc815aaf4673852c3af3dcc3cffe6cb276745a1b77f8afd0ea1c8"), looks := false }, kinds := [], alts := [], laidByText := true, laidKinds := [.data], laidTests := true, laidLooks := .later }
def LeadDemandsCardSaid : Prop := Claim7.holds Tryd.pinned (.plain (OpenSpec.ofChange leadDemandsSpec)) leadDemandsCard

/-- THE TIED CARD OF 'finesselaw14.LeadTells'. -/
def leadTellsCard : Claim7 := { stood := { row := leadTellsRow, standIns := [], harness := (true, "e42f9184794bc815aaf4673852c3af3dcc3cffe6cb276745a1b77f8afd0ea1c8"), looks := false }, kinds := [], alts := [], laidByText := true, laidKinds := [.data], laidTests := true, laidLooks := .later }
def LeadTellsCardSaid : Prop := Claim7.holds Tryd.pinned (.plain (OpenSpec.ofChange leadTellsSpec)) leadTellsCard

/-- THE TIED CARD OF 'finesselaw14.LeadSmall'. -/
def leadSmallCard : Claim7 := { stood := { row := leadSmallRow, standIns := [], harness := (true, "e42f9184794bc815aaf4673852c3af3dcc3cffe6cb276745a1b77f8afd0ea1c8"), looks := false }, kinds := [], alts := [], laidByText := true, laidKinds := [.data], laidTests := true, laidLooks := .later }
def LeadSmallCardSaid : Prop := Claim7.holds Tryd.pinned (.plain (OpenSpec.ofChange leadSmallSpec)) leadSmallCard

/-- THE TIED CARD OF 'finesselaw14.LeadPenalty'. -/
def leadPenaltyCard : Claim7 := { stood := { row := leadPenaltyRow, standIns := [], harness := (true, "e42f9184794bc815aaf4673852c3af3dcc3cffe6cb276745a1b77f8afd0ea1c8"), looks := false }, kinds := [], alts := [], laidByText := true, laidKinds := [.data], laidTests := true, laidLooks := .later }
def LeadPenaltyCardSaid : Prop := Claim7.holds Tryd.pinned (.plain (OpenSpec.ofChange leadPenaltySpec)) leadPenaltyCard

/-- THE SECOND FORM's CARD OF 'finesselaw14.LeadAccepted'. -/
def leadAcceptedUptoCard : Claim7 := { stood := { row := leadAcceptedUptoRow, standIns := [], harness := (true, "e42f9184794bc815aaf4673852c3af3dcc3cffe6cb276745a1b77f8afd0ea1c8"), looks := false }, kinds := [], alts := [], laidByText := true, laidKinds := [.data], laidTests := true, laidLooks := .later }
def LeadAcceptedUptoCardSaid : Prop := Claim7.holds Tryd.pinned (.plain (OpenSpec.upto leadAcceptedSpec)) leadAcceptedUptoCard

/-- THE SECOND FORM's CARD OF 'finesselaw14.LeadWrong'. -/
def leadWrongUptoCard : Claim7 := { stood := { row := leadWrongUptoRow, standIns := [], harness := (true, "e42f9184794bc815aaf4673852c3af3dcc3cffe6cb276745a1b77f8afd0ea1c8"), looks := false }, kinds := [], alts := [], laidByText := true, laidKinds := [.data], laidTests := true, laidLooks := .later }
def LeadWrongUptoCardSaid : Prop := Claim7.holds Tryd.pinned (.plain (OpenSpec.upto leadWrongSpec)) leadWrongUptoCard

/-- THE SECOND FORM's CARD OF 'finesselaw14.LeadKeeps'. -/
def leadKeepsUptoCard : Claim7 := { stood := { row := leadKeepsUptoRow, standIns := [], harness := (true, "e42f9184794bc815aaf4673852c3af3dcc3cffe6cb276745a1b77f8afd0ea1c8"), looks := false }, kinds := [], alts := [], laidByText := true, laidKinds := [.data], laidTests := true, laidLooks := .later }
def LeadKeepsUptoCardSaid : Prop := Claim7.holds Tryd.pinned (.plain (OpenSpec.upto leadKeepsSpec)) leadKeepsUptoCard

/-- THE SECOND FORM's CARD OF 'finesselaw14.LeadChoices'. -/
def leadChoicesUptoCard : Claim7 := { stood := { row := leadChoicesUptoRow, standIns := [], harness := (true, "e42f9184794bc815aaf4673852c3af3dcc3cffe6cb276745a1b77f8afd0ea1c8"), looks := false }, kinds := [], alts := [], laidByText := true, laidKinds := [.data], laidTests := true, laidLooks := .later }
def LeadChoicesUptoCardSaid : Prop := Claim7.holds Tryd.pinned (.plain (OpenSpec.upto leadChoicesSpec)) leadChoicesUptoCard

/-- THE SECOND FORM's CARD OF 'finesselaw14.LeadDemands'. -/
def leadDemandsUptoCard : Claim7 := { stood := { row := leadDemandsUptoRow, standIns := [], harness := (true, "e42f9184794bc815aaf4673852c3af3dcc3cffe6cb276745a1b77f8afd0ea1c8"), looks := false }, kinds := [], alts := [], laidByText := true, laidKinds := [.data], laidTests := true, laidLooks := .later }
def LeadDemandsUptoCardSaid : Prop := Claim7.holds Tryd.pinned (.plain (OpenSpec.upto leadDemandsSpec)) leadDemandsUptoCard

/-- THE SECOND FORM's CARD OF 'finesselaw14.LeadTells'. -/
def leadTellsUptoCard : Claim7 := { stood := { row := leadTellsUptoRow, standIns := [], harness := (true, "e42f9184794bc815aaf4673852c3af3dcc3cffe6cb276745a1b77f8afd0ea1c8"), looks := false }, kinds := [], alts := [], laidByText := true, laidKinds := [.data], laidTests := true, laidLooks := .later }
def LeadTellsUptoCardSaid : Prop := Claim7.holds Tryd.pinned (.plain (OpenSpec.upto leadTellsSpec)) leadTellsUptoCard

/-- THE SECOND FORM's CARD OF 'finesselaw14.LeadSmall'. -/
def leadSmallUptoCard : Claim7 := { stood := { row := leadSmallUptoRow, standIns := [], harness := (true, "e42f9184794bc815aaf4673852c3af3dcc3cffe6cb276745a1b77f8afd0ea1c8"), looks := false }, kinds := [], alts := [], laidByText := true, laidKinds := [.data], laidTests := true, laidLooks := .later }
def LeadSmallUptoCardSaid : Prop := Claim7.holds Tryd.pinned (.plain (OpenSpec.upto leadSmallSpec)) leadSmallUptoCard

/-- THE SECOND FORM's CARD OF 'finesselaw14.LeadPenalty'. -/
def leadPenaltyUptoCard : Claim7 := { stood := { row := leadPenaltyUptoRow, standIns := [], harness := (true, "e42f9184794bc815aaf4673852c3af3dcc3cffe6cb276745a1b77f8afd0ea1c8"), looks := false }, kinds := [], alts := [], laidByText := true, laidKinds := [.data], laidTests := true, laidLooks := .later }
def LeadPenaltyUptoCardSaid : Prop := Claim7.holds Tryd.pinned (.plain (OpenSpec.upto leadPenaltySpec)) leadPenaltyUptoCard
end Rows
end Go.Proofs.YtgnlmodaekfhfaaDoor
