/-
  DERIVED. GIVEN WITH THE SEED: THE CARDS: each row of YtginbellakkliaaDoorRows.lean that lists a variable, with what it lists TIED to the program's text (the seventh form; the later family's looks); each row that meets fmt, with fmt's text TOLD by the authors' own Lean function (tested against real Go, not proved from fmt's source: count such statements apart). THE CARD IS WHAT COUNTS. Prove the row's statement (the work); the ties are given (YtginbellakkliaaDoorTie.lean); close each card by the builder's one call (the guide's Derived/Test/ToyasCard.lean, 'card_holds'). Laid BY PROGRAM, IN A SANDBOX (cutbox-door.mjs). By AI agents, Wed Nov 11 2026. No macro, syntax, notation, axiom, sorry.
-/
import Derived.Test.YtginbellakkliaaDoorRows
import GoSem.ClaimSeven
namespace Go.Proofs.YtginbellakkliaaDoor
namespace Rows

/-- THE TIED CARD OF 'finesselaw12.PlayTurned'. -/
def playTurnedCard : Claim7 := { stood := { row := playTurnedRow, standIns := [], harness := (true, "f33ad5063ddc33e8bf45bcaf300d8157832d9a12f2eb4a98d7adfac7fb2be070"), looks := false }, kinds := [], alts := [], laidByText := true, laidKinds := [.data], laidTests := true, laidLooks := .later }
def PlayTurnedCardSaid : Prop := Claim7.holds Tryd.pinned (.plain (OpenSpec.ofChange playTurnedSpec)) playTurnedCard

/-- THE TIED CARD OF 'finesselaw12.PlayWrong'. -/
def playWrongCard : Claim7 := { stood := { row := playWrongRow, standIns := [], harness := (true, "f33ad5063ddc33e8bf45bcaf300d8157832d9a12f2eb4a98d7adfac7fb2be070"), looks := false }, kinds := [], alts := [], laidByText := true, laidKinds := [.data], laidTests := true, laidLooks := .later }
def PlayWrongCardSaid : Prop := Claim7.holds Tryd.pinned (.plain (OpenSpec.ofChange playWrongSpec)) playWrongCard

/-- THE TIED CARD OF 'finesselaw12.PlaySeen'. -/
def playSeenCard : Claim7 := { stood := { row := playSeenRow, standIns := [], harness := (true, "f33ad5063ddc33e8bf45bcaf300d8157832d9a12f2eb4a98d7adfac7fb2be070"), looks := false }, kinds := [], alts := [], laidByText := true, laidKinds := [.data], laidTests := true, laidLooks := .later }
def PlaySeenCardSaid : Prop := Claim7.holds Tryd.pinned (.plain (OpenSpec.ofChange playSeenSpec)) playSeenCard

/-- THE TIED CARD OF 'finesselaw12.PlayLegal'. -/
def playLegalCard : Claim7 := { stood := { row := playLegalRow, standIns := [], harness := (true, "f33ad5063ddc33e8bf45bcaf300d8157832d9a12f2eb4a98d7adfac7fb2be070"), looks := false }, kinds := [], alts := [], laidByText := true, laidKinds := [.data], laidTests := true, laidLooks := .later }
def PlayLegalCardSaid : Prop := Claim7.holds Tryd.pinned (.plain (OpenSpec.ofChange playLegalSpec)) playLegalCard

/-- THE TIED CARD OF 'finesselaw12.PlayBack'. -/
def playBackCard : Claim7 := { stood := { row := playBackRow, standIns := [], harness := (true, "f33ad5063ddc33e8bf45bcaf300d8157832d9a12f2eb4a98d7adfac7fb2be070"), looks := false }, kinds := [], alts := [], laidByText := true, laidKinds := [.data], laidTests := true, laidLooks := .later }
def PlayBackCardSaid : Prop := Claim7.holds Tryd.pinned (.plain (OpenSpec.ofChange playBackSpec)) playBackCard

/-- THE TIED CARD OF 'finesselaw12.PlayEnds'. -/
def playEndsCard : Claim7 := { stood := { row := playEndsRow, standIns := [], harness := (true, "f33ad5063ddc33e8bf45bcaf300d8157832d9a12f2eb4a98d7adfac7fb2be070"), looks := false }, kinds := [], alts := [], laidByText := true, laidKinds := [.data], laidTests := true, laidLooks := .later }
def PlayEndsCardSaid : Prop := Claim7.holds Tryd.pinned (.plain (OpenSpec.ofChange playEndsSpec)) playEndsCard

/-- THE TIED CARD OF 'finesselaw12.PlayTells'. -/
def playTellsCard : Claim7 := { stood := { row := playTellsRow, standIns := [], harness := (true, "f33ad5063ddc33e8bf45bcaf300d8157832d9a12f2eb4a98d7adfac7fb2be070"), looks := false }, kinds := [], alts := [], laidByText := true, laidKinds := [.data], laidTests := true, laidLooks := .later }
def PlayTellsCardSaid : Prop := Claim7.holds Tryd.pinned (.plain (OpenSpec.ofChange playTellsSpec)) playTellsCard

/-- THE TIED CARD OF 'finesselaw12.PlaySmall'. -/
def playSmallCard : Claim7 := { stood := { row := playSmallRow, standIns := [], harness := (true, "f33ad5063ddc33e8bf45bcaf300d8157832d9a12f2eb4a98d7adfac7fb2be070"), looks := false }, kinds := [], alts := [], laidByText := true, laidKinds := [.data], laidTests := true, laidLooks := .later }
def PlaySmallCardSaid : Prop := Claim7.holds Tryd.pinned (.plain (OpenSpec.ofChange playSmallSpec)) playSmallCard

/-- THE SECOND FORM's CARD OF 'finesselaw12.PlayTurned'. -/
def playTurnedUptoCard : Claim7 := { stood := { row := playTurnedUptoRow, standIns := [], harness := (true, "f33ad5063ddc33e8bf45bcaf300d8157832d9a12f2eb4a98d7adfac7fb2be070"), looks := false }, kinds := [], alts := [], laidByText := true, laidKinds := [.data], laidTests := true, laidLooks := .later }
def PlayTurnedUptoCardSaid : Prop := Claim7.holds Tryd.pinned (.plain (OpenSpec.upto playTurnedSpec)) playTurnedUptoCard

/-- THE SECOND FORM's CARD OF 'finesselaw12.PlayWrong'. -/
def playWrongUptoCard : Claim7 := { stood := { row := playWrongUptoRow, standIns := [], harness := (true, "f33ad5063ddc33e8bf45bcaf300d8157832d9a12f2eb4a98d7adfac7fb2be070"), looks := false }, kinds := [], alts := [], laidByText := true, laidKinds := [.data], laidTests := true, laidLooks := .later }
def PlayWrongUptoCardSaid : Prop := Claim7.holds Tryd.pinned (.plain (OpenSpec.upto playWrongSpec)) playWrongUptoCard

/-- THE SECOND FORM's CARD OF 'finesselaw12.PlaySeen'. -/
def playSeenUptoCard : Claim7 := { stood := { row := playSeenUptoRow, standIns := [], harness := (true, "f33ad5063ddc33e8bf45bcaf300d8157832d9a12f2eb4a98d7adfac7fb2be070"), looks := false }, kinds := [], alts := [], laidByText := true, laidKinds := [.data], laidTests := true, laidLooks := .later }
def PlaySeenUptoCardSaid : Prop := Claim7.holds Tryd.pinned (.plain (OpenSpec.upto playSeenSpec)) playSeenUptoCard

/-- THE SECOND FORM's CARD OF 'finesselaw12.PlayLegal'. -/
def playLegalUptoCard : Claim7 := { stood := { row := playLegalUptoRow, standIns := [], harness := (true, "f33ad5063ddc33e8bf45bcaf300d8157832d9a12f2eb4a98d7adfac7fb2be070"), looks := false }, kinds := [], alts := [], laidByText := true, laidKinds := [.data], laidTests := true, laidLooks := .later }
def PlayLegalUptoCardSaid : Prop := Claim7.holds Tryd.pinned (.plain (OpenSpec.upto playLegalSpec)) playLegalUptoCard

/-- THE SECOND FORM's CARD OF 'finesselaw12.PlayBack'. -/
def playBackUptoCard : Claim7 := { stood := { row := playBackUptoRow, standIns := [], harness := (true, "f33ad5063ddc33e8bf45bcaf300d8157832d9a12f2eb4a98d7adfac7fb2be070"), looks := false }, kinds := [], alts := [], laidByText := true, laidKinds := [.data], laidTests := true, laidLooks := .later }
def PlayBackUptoCardSaid : Prop := Claim7.holds Tryd.pinned (.plain (OpenSpec.upto playBackSpec)) playBackUptoCard

/-- THE SECOND FORM's CARD OF 'finesselaw12.PlayEnds'. -/
def playEndsUptoCard : Claim7 := { stood := { row := playEndsUptoRow, standIns := [], harness := (true, "f33ad5063ddc33e8bf45bcaf300d8157832d9a12f2eb4a98d7adfac7fb2be070"), looks := false }, kinds := [], alts := [], laidByText := true, laidKinds := [.data], laidTests := true, laidLooks := .later }
def PlayEndsUptoCardSaid : Prop := Claim7.holds Tryd.pinned (.plain (OpenSpec.upto playEndsSpec)) playEndsUptoCard

/-- THE SECOND FORM's CARD OF 'finesselaw12.PlayTells'. -/
def playTellsUptoCard : Claim7 := { stood := { row := playTellsUptoRow, standIns := [], harness := (true, "f33ad5063ddc33e8bf45bcaf300d8157832d9a12f2eb4a98d7adfac7fb2be070"), looks := false }, kinds := [], alts := [], laidByText := true, laidKinds := [.data], laidTests := true, laidLooks := .later }
def PlayTellsUptoCardSaid : Prop := Claim7.holds Tryd.pinned (.plain (OpenSpec.upto playTellsSpec)) playTellsUptoCard

/-- THE SECOND FORM's CARD OF 'finesselaw12.PlaySmall'. -/
def playSmallUptoCard : Claim7 := { stood := { row := playSmallUptoRow, standIns := [], harness := (true, "f33ad5063ddc33e8bf45bcaf300d8157832d9a12f2eb4a98d7adfac7fb2be070"), looks := false }, kinds := [], alts := [], laidByText := true, laidKinds := [.data], laidTests := true, laidLooks := .later }
def PlaySmallUptoCardSaid : Prop := Claim7.holds Tryd.pinned (.plain (OpenSpec.upto playSmallSpec)) playSmallUptoCard
end Rows
end Go.Proofs.YtginbellakkliaaDoor
