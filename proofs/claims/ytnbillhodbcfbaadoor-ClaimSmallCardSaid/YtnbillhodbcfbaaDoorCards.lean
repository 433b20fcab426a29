/-
  DERIVED. GIVEN WITH THE SEED: THE CARDS: each row of YtnbillhodbcfbaaDoorRows.lean that lists a variable, with what it lists TIED to the program's text (the seventh form; the later family's looks); each row that meets fmt, with fmt's text TOLD by the authors' own Lean function (tested against real Go, not proved from fmt's source: count such statements apart). THE CARD IS WHAT COUNTS. Prove the row's statement (the work); the ties are given (YtnbillhodbcfbaaDoorTie.lean); close each card by the builder's one call (the guide's Derived/Test/ToyasCard.lean, 'card_holds'). Laid BY PROGRAM, IN A SANDBOX (cutbox-door.mjs). By AI agents, Wed Nov 11 2026. No macro, syntax, notation, axiom, sorry.
-/
import Derived.Test.YtnbillhodbcfbaaDoorRows
import GoSem.ClaimSeven
namespace Go.Proofs.YtnbillhodbcfbaaDoor
namespace Rows

/-- THE TIED CARD OF 'finesselaw16.ClaimSmall'. -/
def claimSmallCard : Claim7 := { stood := { row := claimSmallRow, standIns := [], harness := (true, "216c3e73baa2e87d2442a4a8a6d62bfb2560702a9e7b3986f5232a020426db32"), looks := false }, kinds := [], alts := [], laidByText := true, laidKinds := [.data], laidTests := true, laidLooks := .later }
def ClaimSmallCardSaid : Prop := Claim7.holds Tryd.pinned (.plain (OpenSpec.ofChange claimSmallSpec)) claimSmallCard

/-- THE TIED CARD OF 'finesselaw16.ClaimSafe'. -/
def claimSafeCard : Claim7 := { stood := { row := claimSafeRow, standIns := [], harness := (true, "216c3e73baa2e87d2442a4a8a6d62bfb2560702a9e7b3986f5232a020426db32"), looks := false }, kinds := [], alts := [], laidByText := true, laidKinds := [.data], laidTests := true, laidLooks := .later }
def ClaimSafeCardSaid : Prop := Claim7.holds Tryd.pinned (.plain (OpenSpec.ofChange claimSafeSpec)) claimSafeCard

/-- THE TIED CARD OF 'finesselaw16.ClaimTells'. -/
def claimTellsCard : Claim7 := { stood := { row := claimTellsRow, standIns := [], harness := (true, "216c3e73baa2e87d2442a4a8a6d62bfb2560702a9e7b3986f5232a020426db32"), looks := false }, kinds := [], alts := [], laidByText := true, laidKinds := [.data], laidTests := true, laidLooks := .later }
def ClaimTellsCardSaid : Prop := Claim7.holds Tryd.pinned (.plain (OpenSpec.ofChange claimTellsSpec)) claimTellsCard

/-- THE TIED CARD OF 'finesselaw16.ClaimAwards'. -/
def claimAwardsCard : Claim7 := { stood := { row := claimAwardsRow, standIns := [], harness := (true, "216c3e73baa2e87d2442a4a8a6d62bfb2560702a9e7b3986f5232a020426db32"), looks := false }, kinds := [], alts := [], laidByText := true, laidKinds := [.data], laidTests := true, laidLooks := .later }
def ClaimAwardsCardSaid : Prop := Claim7.holds Tryd.pinned (.plain (OpenSpec.ofChange claimAwardsSpec)) claimAwardsCard

/-- THE TIED CARD OF 'finesselaw16.ClaimSides'. -/
def claimSidesCard : Claim7 := { stood := { row := claimSidesRow, standIns := [], harness := (true, "216c3e73baa2e87d2442a4a8a6d62bfb2560702a9e7b3986f5232a020426db32"), looks := false }, kinds := [], alts := [], laidByText := true, laidKinds := [.data], laidTests := true, laidLooks := .later }
def ClaimSidesCardSaid : Prop := Claim7.holds Tryd.pinned (.plain (OpenSpec.ofChange claimSidesSpec)) claimSidesCard

/-- THE TIED CARD OF 'finesselaw16.ClaimLonger'. -/
def claimLongerCard : Claim7 := { stood := { row := claimLongerRow, standIns := [], harness := (true, "216c3e73baa2e87d2442a4a8a6d62bfb2560702a9e7b3986f5232a020426db32"), looks := false }, kinds := [], alts := [], laidByText := true, laidKinds := [.data], laidTests := true, laidLooks := .later }
def ClaimLongerCardSaid : Prop := Claim7.holds Tryd.pinned (.plain (OpenSpec.ofChange claimLongerSpec)) claimLongerCard

/-- THE TIED CARD OF 'finesselaw16.ClaimWrong'. -/
def claimWrongCard : Claim7 := { stood := { row := claimWrongRow, standIns := [], harness := (true, "216c3e73baa2e87d2442a4a8a6d62bfb2560702a9e7b3986f5232a020426db32"), looks := false }, kinds := [], alts := [], laidByText := true, laidKinds := [.data], laidTests := true, laidLooks := .later }
def ClaimWrongCardSaid : Prop := Claim7.holds Tryd.pinned (.plain (OpenSpec.ofChange claimWrongSpec)) claimWrongCard

/-- THE SECOND FORM's CARD OF 'finesselaw16.ClaimSmall'. -/
def claimSmallUptoCard : Claim7 := { stood := { row := claimSmallUptoRow, standIns := [], harness := (true, "216c3e73baa2e87d2442a4a8a6d62bfb2560702a9e7b3986f5232a020426db32"), looks := false }, kinds := [], alts := [], laidByText := true, laidKinds := [.data], laidTests := true, laidLooks := .later }
def ClaimSmallUptoCardSaid : Prop := Claim7.holds Tryd.pinned (.plain (OpenSpec.upto claimSmallSpec)) claimSmallUptoCard

/-- THE SECOND FORM's CARD OF 'finesselaw16.ClaimSafe'. -/
def claimSafeUptoCard : Claim7 := { stood := { row := claimSafeUptoRow, standIns := [], harness := (true, "216c3e73baa2e87d2442a4a8a6d62bfb2560702a9e7b3986f5232a020426db32"), looks := false }, kinds := [], alts := [], laidByText := true, laidKinds := [.data], laidTests := true, laidLooks := .later }
def ClaimSafeUptoCardSaid : Prop := Claim7.holds Tryd.pinned (.plain (OpenSpec.upto claimSafeSpec)) claimSafeUptoCard

/-- THE SECOND FORM's CARD OF 'finesselaw16.ClaimTells'. -/
def claimTellsUptoCard : Claim7 := { stood := { row := claimTellsUptoRow, standIns := [], harness := (true, "216c3e73baa2e87d2442a4a8a6d62bfb2560702a9e7b3986f5232a020426db32"), looks := false }, kinds := [], alts := [], laidByText := true, laidKinds := [.data], laidTests := true, laidLooks := .later }
def ClaimTellsUptoCardSaid : Prop := Claim7.holds Tryd.pinned (.plain (OpenSpec.upto claimTellsSpec)) claimTellsUptoCard

/-- THE SECOND FORM's CARD OF 'finesselaw16.ClaimAwards'. -/
def claimAwardsUptoCard : Claim7 := { stood := { row := claimAwardsUptoRow, standIns := [], harness := (true, "216c3e73baa2e87d2442a4a8a6d62bfb2560702a9e7b3986f5232a020426db32"), looks := false }, kinds := [], alts := [], laidByText := true, laidKinds := [.data], laidTests := true, laidLooks := .later }
def ClaimAwardsUptoCardSaid : Prop := Claim7.holds Tryd.pinned (.plain (OpenSpec.upto claimAwardsSpec)) claimAwardsUptoCard

/-- THE SECOND FORM's CARD OF 'finesselaw16.ClaimSides'. -/
def claimSidesUptoCard : Claim7 := { stood := { row := claimSidesUptoRow, standIns := [], harness := (true, "216c3e73baa2e87d2442a4a8a6d62bfb2560702a9e7b3986f5232a020426db32"), looks := false }, kinds := [], alts := [], laidByText := true, laidKinds := [.data], laidTests := true, laidLooks := .later }
def ClaimSidesUptoCardSaid : Prop := Claim7.holds Tryd.pinned (.plain (OpenSpec.upto claimSidesSpec)) claimSidesUptoCard

/-- THE SECOND FORM's CARD OF 'finesselaw16.ClaimLonger'. -/
def claimLongerUptoCard : Claim7 := { stood := { row := claimLongerUptoRow, standIns := [], harness := (true, "216c3e73baa2e87d2442a4a8a6d62bfb2560702a9e7b3986f5232a020426db32"), looks := false }, kinds := [], alts := [], laidByText := true, laidKinds := [.data], laidTests := true, laidLooks := .later }
def ClaimLongerUptoCardSaid : Prop := Claim7.holds Tryd.pinned (.plain (OpenSpec.upto claimLongerSpec)) claimLongerUptoCard

/-- THE SECOND FORM's CARD OF 'finesselaw16.ClaimWrong'. -/
def claimWrongUptoCard : Claim7 := { stood := { row := claimWrongUptoRow, standIns := [], harness := (true, "216c3e73baa2e87d2442a4a8a6d62bfb2560702a9e7b3986f5232a020426db32"), looks := false }, kinds := [], alts := [], laidByText := true, laidKinds := [.data], laidTests := true, laidLooks := .later }
def ClaimWrongUptoCardSaid : Prop := Claim7.holds Tryd.pinned (.plain (OpenSpec.upto claimWrongSpec)) claimWrongUptoCard
end Rows
end Go.Proofs.YtnbillhodbcfbaaDoor
