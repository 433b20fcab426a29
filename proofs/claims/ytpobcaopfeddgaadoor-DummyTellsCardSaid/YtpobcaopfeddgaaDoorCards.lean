/-
  DERIVED. GIVEN WITH THE SEED: THE CARDS: each row of YtpobcaopfeddgaaDoorRows.lean that lists a variable, with what it lists TIED to the program's text (the seventh form; the later family's looks); each row that meets fmt, with fmt's text TOLD by the authors' own Lean function (tested against real Go, not proved from fmt's source: count such statements apart). THE CARD IS WHAT COUNTS. Prove the row's statement (the work); the ties are given (YtpobcaopfeddgaaDoorTie.lean); close each card by the builder's one call (the guide's Derived/Test/ToyasCard.lean, 'card_holds'). Laid BY PROGRAM, IN A SANDBOX (cutbox-door.mjs). By AI agents, Wed Nov 11 2026. No macro, syntax, notation, axiom, sorry.
-/
import Derived.Test.YtpobcaopfeddgaaDoorRows
import GoSem.ClaimSeven
namespace Go.Proofs.YtpobcaopfeddgaaDoor
namespace Rows

/-- THE TIED CARD OF 'finesselaw15.DummyTells'. -/
def dummyTellsCard : Claim7 := { stood := { row := dummyTellsRow, standIns := [], harness := (true, "7f5dacfe70cdada4a6cb12d61c4c3879541e622320c81913e05d2bc12a7fb379"), looks := false }, kinds := [], alts := [], laidByText := true, laidKinds := [.data], laidTests := true, laidLooks := .later }
def DummyTellsCardSaid : Prop := Claim7.holds Tryd.pinned (.plain (OpenSpec.ofChange dummyTellsSpec)) dummyTellsCard

/-- THE TIED CARD OF 'finesselaw15.DummyBest'. -/
def dummyBestCard : Claim7 := { stood := { row := dummyBestRow, standIns := [], harness := (true, "7f5dacfe70cdada4a6cb12d61c4c3879541e622320c81913e05d2bc12a7fb379"), looks := false }, kinds := [], alts := [], laidByText := true, laidKinds := [.data], laidTests := true, laidLooks := .later }
def DummyBestCardSaid : Prop := Claim7.holds Tryd.pinned (.plain (OpenSpec.ofChange dummyBestSpec)) dummyBestCard

/-- THE TIED CARD OF 'finesselaw15.DummyTurned'. -/
def dummyTurnedCard : Claim7 := { stood := { row := dummyTurnedRow, standIns := [], harness := (true, "7f5dacfe70cdada4a6cb12d61c4c3879541e622320c81913e05d2bc12a7fb379"), looks := false }, kinds := [], alts := [], laidByText := true, laidKinds := [.data], laidTests := true, laidLooks := .later }
def DummyTurnedCardSaid : Prop := Claim7.holds Tryd.pinned (.plain (OpenSpec.ofChange dummyTurnedSpec)) dummyTurnedCard

/-- THE TIED CARD OF 'finesselaw15.DummySuits'. -/
def dummySuitsCard : Claim7 := { stood := { row := dummySuitsRow, standIns := [], harness := (true, "7f5dacfe70cdada4a6cb12d61c4c3879541e622320c81913e05d2bc12a7fb379"), looks := false }, kinds := [], alts := [], laidByText := true, laidKinds := [.data], laidTests := true, laidLooks := .later }
def DummySuitsCardSaid : Prop := Claim7.holds Tryd.pinned (.plain (OpenSpec.ofChange dummySuitsSpec)) dummySuitsCard

/-- THE TIED CARD OF 'finesselaw15.DummyHigh'. -/
def dummyHighCard : Claim7 := { stood := { row := dummyHighRow, standIns := [], harness := (true, "7f5dacfe70cdada4a6cb12d61c4c3879541e622320c81913e05d2bc12a7fb379"), looks := false }, kinds := [], alts := [], laidByText := true, laidKinds := [.data], laidTests := true, laidLooks := .later }
def DummyHighCardSaid : Prop := Claim7.holds Tryd.pinned (.plain (OpenSpec.ofChange dummyHighSpec)) dummyHighCard

/-- THE TIED CARD OF 'finesselaw15.DummyMakes'. -/
def dummyMakesCard : Claim7 := { stood := { row := dummyMakesRow, standIns := [], harness := (true, "7f5dacfe70cdada4a6cb12d61c4c3879541e622320c81913e05d2bc12a7fb379"), looks := false }, kinds := [], alts := [], laidByText := true, laidKinds := [.data], laidTests := true, laidLooks := .later }
def DummyMakesCardSaid : Prop := Claim7.holds Tryd.pinned (.plain (OpenSpec.ofChange dummyMakesSpec)) dummyMakesCard

/-- THE TIED CARD OF 'finesselaw15.DummyTables'. -/
def dummyTablesCard : Claim7 := { stood := { row := dummyTablesRow, standIns := [], harness := (true, "7f5dacfe70cdada4a6cb12d61c4c3879541e622320c81913e05d2bc12a7fb379"), looks := false }, kinds := [], alts := [], laidByText := true, laidKinds := [.data], laidTests := true, laidLooks := .later }
def DummyTablesCardSaid : Prop := Claim7.holds Tryd.pinned (.plain (OpenSpec.ofChange dummyTablesSpec)) dummyTablesCard

/-- THE TIED CARD OF 'finesselaw15.DummyWrong'. -/
def dummyWrongCard : Claim7 := { stood := { row := dummyWrongRow, standIns := [], harness := (true, "7f5dacfe70cdada4a6cb12d61c4c3879541e622320c81913e05d2bc12a7fb379"), looks := false }, kinds := [], alts := [], laidByText := true, laidKinds := [.data], laidTests := true, laidLooks := .later }
def DummyWrongCardSaid : Prop := Claim7.holds Tryd.pinned (.plain (OpenSpec.ofChange dummyWrongSpec)) dummyWrongCard

/-- THE SECOND FORM's CARD OF 'finesselaw15.DummyTells'. -/
def dummyTellsUptoCard : Claim7 := { stood := { row := dummyTellsUptoRow, standIns := [], harness := (true, "7f5dacfe70cdada4a6cb12d61c4c3879541e622320c81913e05d2bc12a7fb379"), looks := false }, kinds := [], alts := [], laidByText := true, laidKinds := [.data], laidTests := true, laidLooks := .later }
def DummyTellsUptoCardSaid : Prop := Claim7.holds Tryd.pinned (.plain (OpenSpec.upto dummyTellsSpec)) dummyTellsUptoCard

/-- THE SECOND FORM's CARD OF 'finesselaw15.DummyBest'. -/
def dummyBestUptoCard : Claim7 := { stood := { row := dummyBestUptoRow, standIns := [], harness := (true, "7f5dacfe70cdada4a6cb12d61c4c3879541e622320c81913e05d2bc12a7fb379"), looks := false }, kinds := [], alts := [], laidByText := true, laidKinds := [.data], laidTests := true, laidLooks := .later }
def DummyBestUptoCardSaid : Prop := Claim7.holds Tryd.pinned (.plain (OpenSpec.upto dummyBestSpec)) dummyBestUptoCard

/-- THE SECOND FORM's CARD OF 'finesselaw15.DummyTurned'. -/
def dummyTurnedUptoCard : Claim7 := { stood := { row := dummyTurnedUptoRow, standIns := [], harness := (true, "7f5dacfe70cdada4a6cb12d61c4c3879541e622320c81913e05d2bc12a7fb379"), looks := false }, kinds := [], alts := [], laidByText := true, laidKinds := [.data], laidTests := true, laidLooks := .later }
def DummyTurnedUptoCardSaid : Prop := Claim7.holds Tryd.pinned (.plain (OpenSpec.upto dummyTurnedSpec)) dummyTurnedUptoCard

/-- THE SECOND FORM's CARD OF 'finesselaw15.DummySuits'. -/
def dummySuitsUptoCard : Claim7 := { stood := { row := dummySuitsUptoRow, standIns := [], harness := (true, "7f5dacfe70cdada4a6cb12d61c4c3879541e622320c81913e05d2bc12a7fb379"), looks := false }, kinds := [], alts := [], laidByText := true, laidKinds := [.data], laidTests := true, laidLooks := .later }
def DummySuitsUptoCardSaid : Prop := Claim7.holds Tryd.pinned (.plain (OpenSpec.upto dummySuitsSpec)) dummySuitsUptoCard

/-- THE SECOND FORM's CARD OF 'finesselaw15.DummyHigh'. -/
def dummyHighUptoCard : Claim7 := { stood := { row := dummyHighUptoRow, standIns := [], harness := (true, "7f5dacfe70cdada4a6cb12d61c4c3879541e622320c81913e05d2bc12a7fb379"), looks := false }, kinds := [], alts := [], laidByText := true, laidKinds := [.data], laidTests := true, laidLooks := .later }
def DummyHighUptoCardSaid : Prop := Claim7.holds Tryd.pinned (.plain (OpenSpec.upto dummyHighSpec)) dummyHighUptoCard

/-- THE SECOND FORM's CARD OF 'finesselaw15.DummyMakes'. -/
def dummyMakesUptoCard : Claim7 := { stood := { row := dummyMakesUptoRow, standIns := [], harness := (true, "7f5dacfe70cdada4a6cb12d61c4c3879541e622320c81913e05d2bc12a7fb379"), looks := false }, kinds := [], alts := [], laidByText := true, laidKinds := [.data], laidTests := true, laidLooks := .later }
def DummyMakesUptoCardSaid : Prop := Claim7.holds Tryd.pinned (.plain (OpenSpec.upto dummyMakesSpec)) dummyMakesUptoCard

/-- THE SECOND FORM's CARD OF 'finesselaw15.DummyTables'. -/
def dummyTablesUptoCard : Claim7 := { stood := { row := dummyTablesUptoRow, standIns := [], harness := (true, "7f5dacfe70cdada4a6cb12d61c4c3879541e622320c81913e05d2bc12a7fb379"), looks := false }, kinds := [], alts := [], laidByText := true, laidKinds := [.data], laidTests := true, laidLooks := .later }
def DummyTablesUptoCardSaid : Prop := Claim7.holds Tryd.pinned (.plain (OpenSpec.upto dummyTablesSpec)) dummyTablesUptoCard

/-- THE SECOND FORM's CARD OF 'finesselaw15.DummyWrong'. -/
def dummyWrongUptoCard : Claim7 := { stood := { row := dummyWrongUptoRow, standIns := [], harness := (true, "7f5dacfe70cdada4a6cb12d61c4c3879541e622320c81913e05d2bc12a7fb379"), looks := false }, kinds := [], alts := [], laidByText := true, laidKinds := [.data], laidTests := true, laidLooks := .later }
def DummyWrongUptoCardSaid : Prop := Claim7.holds Tryd.pinned (.plain (OpenSpec.upto dummyWrongSpec)) dummyWrongUptoCard
end Rows
end Go.Proofs.YtpobcaopfeddgaaDoor
