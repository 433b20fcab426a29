/-
  DERIVED. GIVEN WITH THE SEED: THE CARDS: each row of YthilcnhnfdddhaaDoorRows.lean that lists a variable, with what it lists TIED to the program's text (the seventh form; the later family's looks); each row that meets fmt, with fmt's text TOLD by the authors' own Lean function (tested against real Go, not proved from fmt's source: count such statements apart). THE CARD IS WHAT COUNTS. Prove the row's statement (the work); the ties are given (YthilcnhnfdddhaaDoorTie.lean); close each card by the builder's one call (the guide's Derived/Test/ToyasCard.lean, 'card_holds'). Laid BY PROGRAM, IN A SANDBOX (cutbox-door.mjs). By AI agents, Wed Nov 11 2026. No macro, syntax, notation, axiom, sorry.
-/
import Derived.Test.YthilcnhnfdddhaaDoorRows
import GoSem.ClaimSeven
namespace Go.Proofs.YthilcnhnfdddhaaDoor
namespace Rows

/-- THE TIED CARD OF 'finesselaw11.TrickPlays'. -/
def trickPlaysCard : Claim7 := { stood := { row := trickPlaysRow, standIns := [], harness := (true, "c7f694288a6d01ddc06117b5bcf8c87990f4c12383e8a44620101caaaec658c0"), looks := false }, kinds := [], alts := [], laidByText := true, laidKinds := [.data], laidTests := true, laidLooks := .later }
def TrickPlaysCardSaid : Prop := Claim7.holds Tryd.pinned (.plain (OpenSpec.ofChange trickPlaysSpec)) trickPlaysCard

/-- THE TIED CARD OF 'finesselaw11.TrickSuits'. -/
def trickSuitsCard : Claim7 := { stood := { row := trickSuitsRow, standIns := [], harness := (true, "c7f694288a6d01ddc06117b5bcf8c87990f4c12383e8a44620101caaaec658c0"), looks := false }, kinds := [], alts := [], laidByText := true, laidKinds := [.data], laidTests := true, laidLooks := .later }
def TrickSuitsCardSaid : Prop := Claim7.holds Tryd.pinned (.plain (OpenSpec.ofChange trickSuitsSpec)) trickSuitsCard

/-- THE TIED CARD OF 'finesselaw11.TrickTells'. -/
def trickTellsCard : Claim7 := { stood := { row := trickTellsRow, standIns := [], harness := (true, "c7f694288a6d01ddc06117b5bcf8c87990f4c12383e8a44620101caaaec658c0"), looks := false }, kinds := [], alts := [], laidByText := true, laidKinds := [.data], laidTests := true, laidLooks := .later }
def TrickTellsCardSaid : Prop := Claim7.holds Tryd.pinned (.plain (OpenSpec.ofChange trickTellsSpec)) trickTellsCard

/-- THE TIED CARD OF 'finesselaw11.TrickSmall'. -/
def trickSmallCard : Claim7 := { stood := { row := trickSmallRow, standIns := [], harness := (true, "c7f694288a6d01ddc06117b5bcf8c87990f4c12383e8a44620101caaaec658c0"), looks := false }, kinds := [], alts := [], laidByText := true, laidKinds := [.data], laidTests := true, laidLooks := .later }
def TrickSmallCardSaid : Prop := Claim7.holds Tryd.pinned (.plain (OpenSpec.ofChange trickSmallSpec)) trickSmallCard

/-- THE TIED CARD OF 'finesselaw11.TrickWinners'. -/
def trickWinnersCard : Claim7 := { stood := { row := trickWinnersRow, standIns := [], harness := (true, "c7f694288a6d01ddc06117b5bcf8c87990f4c12383e8a44620101caaaec658c0"), looks := false }, kinds := [], alts := [], laidByText := true, laidKinds := [.data], laidTests := true, laidLooks := .later }
def TrickWinnersCardSaid : Prop := Claim7.holds Tryd.pinned (.plain (OpenSpec.ofChange trickWinnersSpec)) trickWinnersCard

/-- THE TIED CARD OF 'finesselaw11.TrickWinner'. -/
def trickWinnerCard : Claim7 := { stood := { row := trickWinnerRow, standIns := [], harness := (true, "c7f694288a6d01ddc06117b5bcf8c87990f4c12383e8a44620101caaaec658c0"), looks := false }, kinds := [], alts := [], laidByText := true, laidKinds := [.data], laidTests := true, laidLooks := .later }
def TrickWinnerCardSaid : Prop := Claim7.holds Tryd.pinned (.plain (OpenSpec.ofChange trickWinnerSpec)) trickWinnerCard

/-- THE TIED CARD OF 'finesselaw11.TrickWrong'. -/
def trickWrongCard : Claim7 := { stood := { row := trickWrongRow, standIns := [], harness := (true, "c7f694288a6d01ddc06117b5bcf8c87990f4c12383e8a44620101caaaec658c0"), looks := false }, kinds := [], alts := [], laidByText := true, laidKinds := [.data], laidTests := true, laidLooks := .later }
def TrickWrongCardSaid : Prop := Claim7.holds Tryd.pinned (.plain (OpenSpec.ofChange trickWrongSpec)) trickWrongCard

/-- THE TIED CARD OF 'finesselaw11.TrickFollow'. -/
def trickFollowCard : Claim7 := { stood := { row := trickFollowRow, standIns := [], harness := (true, "c7f694288a6d01ddc06117b5bcf8c87990f4c12383e8a44620101caaaec658c0"), looks := false }, kinds := [], alts := [], laidByText := true, laidKinds := [.data], laidTests := true, laidLooks := .later }
def TrickFollowCardSaid : Prop := Claim7.holds Tryd.pinned (.plain (OpenSpec.ofChange trickFollowSpec)) trickFollowCard

/-- THE SECOND FORM's CARD OF 'finesselaw11.TrickPlays'. -/
def trickPlaysUptoCard : Claim7 := { stood := { row := trickPlaysUptoRow, standIns := [], harness := (true, "c7f694288a6d01ddc06117b5bcf8c87990f4c12383e8a44620101caaaec658c0"), looks := false }, kinds := [], alts := [], laidByText := true, laidKinds := [.data], laidTests := true, laidLooks := .later }
def TrickPlaysUptoCardSaid : Prop := Claim7.holds Tryd.pinned (.plain (OpenSpec.upto trickPlaysSpec)) trickPlaysUptoCard

/-- THE SECOND FORM's CARD OF 'finesselaw11.TrickSuits'. -/
def trickSuitsUptoCard : Claim7 := { stood := { row := trickSuitsUptoRow, standIns := [], harness := (true, "c7f694288a6d01ddc06117b5bcf8c87990f4c12383e8a44620101caaaec658c0"), looks := false }, kinds := [], alts := [], laidByText := true, laidKinds := [.data], laidTests := true, laidLooks := .later }
def TrickSuitsUptoCardSaid : Prop := Claim7.holds Tryd.pinned (.plain (OpenSpec.upto trickSuitsSpec)) trickSuitsUptoCard

/-- THE SECOND FORM's CARD OF 'finesselaw11.TrickTells'. -/
def trickTellsUptoCard : Claim7 := { stood := { row := trickTellsUptoRow, standIns := [], harness := (true, "c7f694288a6d01ddc06117b5bcf8c87990f4c12383e8a44620101caaaec658c0"), looks := false }, kinds := [], alts := [], laidByText := true, laidKinds := [.data], laidTests := true, laidLooks := .later }
def TrickTellsUptoCardSaid : Prop := Claim7.holds Tryd.pinned (.plain (OpenSpec.upto trickTellsSpec)) trickTellsUptoCard

/-- THE SECOND FORM's CARD OF 'finesselaw11.TrickSmall'. -/
def trickSmallUptoCard : Claim7 := { stood := { row := trickSmallUptoRow, standIns := [], harness := (true, "c7f694288a6d01ddc06117b5bcf8c87990f4c12383e8a44620101caaaec658c0"), looks := false }, kinds := [], alts := [], laidByText := true, laidKinds := [.data], laidTests := true, laidLooks := .later }
def TrickSmallUptoCardSaid : Prop := Claim7.holds Tryd.pinned (.plain (OpenSpec.upto trickSmallSpec)) trickSmallUptoCard

/-- THE SECOND FORM's CARD OF 'finesselaw11.TrickWinners'. -/
def trickWinnersUptoCard : Claim7 := { stood := { row := trickWinnersUptoRow, standIns := [], harness := (true, "c7f694288a6d01ddc06117b5bcf8c87990f4c12383e8a44620101caaaec658c0"), looks := false }, kinds := [], alts := [], laidByText := true, laidKinds := [.data], laidTests := true, laidLooks := .later }
def TrickWinnersUptoCardSaid : Prop := Claim7.holds Tryd.pinned (.plain (OpenSpec.upto trickWinnersSpec)) trickWinnersUptoCard

/-- THE SECOND FORM's CARD OF 'finesselaw11.TrickWinner'. -/
def trickWinnerUptoCard : Claim7 := { stood := { row := trickWinnerUptoRow, standIns := [], harness := (true, "c7f694288a6d01ddc06117b5bcf8c87990f4c12383e8a44620101caaaec658c0"), looks := false }, kinds := [], alts := [], laidByText := true, laidKinds := [.data], laidTests := true, laidLooks := .later }
def TrickWinnerUptoCardSaid : Prop := Claim7.holds Tryd.pinned (.plain (OpenSpec.upto trickWinnerSpec)) trickWinnerUptoCard

/-- THE SECOND FORM's CARD OF 'finesselaw11.TrickWrong'. -/
def trickWrongUptoCard : Claim7 := { stood := { row := trickWrongUptoRow, standIns := [], harness := (true, "c7f694288a6d01ddc06117b5bcf8c87990f4c12383e8a44620101caaaec658c0"), looks := false }, kinds := [], alts := [], laidByText := true, laidKinds := [.data], laidTests := true, laidLooks := .later }
def TrickWrongUptoCardSaid : Prop := Claim7.holds Tryd.pinned (.plain (OpenSpec.upto trickWrongSpec)) trickWrongUptoCard

/-- THE SECOND FORM's CARD OF 'finesselaw11.TrickFollow'. -/
def trickFollowUptoCard : Claim7 := { stood := { row := trickFollowUptoRow, standIns := [], harness := (true, "c7f694288a6d01ddc06117b5bcf8c87990f4c12383e8a44620101caaaec658c0"), looks := false }, kinds := [], alts := [], laidByText := true, laidKinds := [.data], laidTests := true, laidLooks := .later }
def TrickFollowUptoCardSaid : Prop := Claim7.holds Tryd.pinned (.plain (OpenSpec.upto trickFollowSpec)) trickFollowUptoCard
end Rows
end Go.Proofs.YthilcnhnfdddhaaDoor
