/-
  NARROWER THAN 'FOR EVERY INPUT', by the rows' own cells (each row's printed sentence says how): TrickPlays: laid · TrickSuits: laid · TrickTells: laid · TrickSmall: laid · TrickWinners: laid · TrickWinner: laid · TrickWrong: laid · TrickFollow: laid.
  DERIVED. THE GIVEN ROWS OF THIS SEAT. 8 by the template 'for every input the law returns true; each argument reads behind the call as it read before'; 0 by the template 'total and deterministic' (their statements: YthilcnhnfdddhaaDoorTotals.lean).
  GIVEN WITH THE SEED: the statements are not yours to turn. If you find one false, say at which input.
  Laid BY PROGRAM, IN A SANDBOX (cutbox-rows.mjs): the forced cells as the released guide's own fill.sh prints them over the translation d962c99cf8d0af56… (all of the seat's roots in one cut). By AI agents, Wed Nov 11 2026. No macro, syntax, notation, axiom, sorry.
-/
import Derived.Test.YthilcnhnfdddhaaDoorChecked
import GoSem.Claim
import GoSem.ClaimJoined
import GoSem.ClaimMapViews
import Derived.JoinedTies
import Derived.KernelRfl
namespace Go.Proofs.YthilcnhnfdddhaaDoor
/- THE CELL 'sum', in the pinned program and in every row, IS THE sha256 OF THE DUMP (.gsa) THAT YthilcnhnfdddhaaDoorProg.lean LOADS. Nothing in Lean hashes anything: it is a label: what it is worth is what the hold of that sum in a sandbox is worth. -/
noncomputable def Tryd.pinned : Pinned := { name := "ythilcnhnfdddhaadoor", sum := "d962c99cf8d0af56c3334cbd2d708efcda3bc349727e1b7f4f88ecc5695b1d98", checked := Tryd.checked }
namespace Rows
def none {H : Type} : Left H := { results := [], args := [] }

/- WHAT THE LISTED PACKAGE-LEVEL VARIABLES READ AS WHEN THE CALL BEGINS. Each datum BY PROGRAM (the guide's laid-datum.mjs) off the statement by which the dump's own 'gosem.cut.vars' lays the variable. In a bare row this is a premise. The card (YthilcnhnfdddhaaDoorCards.lean) ties it to the program's text. -/
def laid_math_bits_deBruijn64tab {H : Type} : DataW H := .agg [.lit (.int .u8 0), .lit (.int .u8 1), .lit (.int .u8 56), .lit (.int .u8 2), .lit (.int .u8 57), .lit (.int .u8 49), .lit (.int .u8 28), .lit (.int .u8 3), .lit (.int .u8 61), .lit (.int .u8 58), .lit (.int .u8 42), .lit (.int .u8 50), .lit (.int .u8 38), .lit (.int .u8 29), .lit (.int .u8 17), .lit (.int .u8 4), .lit (.int .u8 62), .lit (.int .u8 47), .lit (.int .u8 59), .lit (.int .u8 36), .lit (.int .u8 45), .lit (.int .u8 43), .lit (.int .u8 51), .lit (.int .u8 22), .lit (.int .u8 53), .lit (.int .u8 39), .lit (.int .u8 33), .lit (.int .u8 30), .lit (.int .u8 24), .lit (.int .u8 18), .lit (.int .u8 12), .lit (.int .u8 5), .lit (.int .u8 63), .lit (.int .u8 55), .lit (.int .u8 48), .lit (.int .u8 27), .lit (.int .u8 60), .lit (.int .u8 41), .lit (.int .u8 37), .lit (.int .u8 16), .lit (.int .u8 46), .lit (.int .u8 35), .lit (.int .u8 44), .lit (.int .u8 21), .lit (.int .u8 52), .lit (.int .u8 32), .lit (.int .u8 23), .lit (.int .u8 11), .lit (.int .u8 54), .lit (.int .u8 26), .lit (.int .u8 40), .lit (.int .u8 15), .lit (.int .u8 34), .lit (.int .u8 20), .lit (.int .u8 31), .lit (.int .u8 10), .lit (.int .u8 25), .lit (.int .u8 14), .lit (.int .u8 19), .lit (.int .u8 9), .lit (.int .u8 13), .lit (.int .u8 8), .lit (.int .u8 7), .lit (.int .u8 6)]

/-- 'finesselaw11.TrickPlays': WHATEVER THE INPUT: true; the input reads as it did. -/
def trickPlaysSpec : ChangeSpec := { name := "trickPlays", fn := fun _ => fun
  | [d1, d2, d3] => { results := [.lit (.bool true)], args := [d1, d2, d3] }
  | _ => none }
def trickPlaysRow : OpenClaim := { program := "ythilcnhnfdddhaadoor", sum := "d962c99cf8d0af56c3334cbd2d708efcda3bc349727e1b7f4f88ecc5695b1d98", func := "finesse/finesselaw11.TrickPlays", spec := "trickPlays", unfollowed := true, recurses := true, named := ["math/bits.deBruijn64tab"], apart := false, laid := [("math/bits.deBruijn64tab", laid_math_bits_deBruijn64tab)] }
def TrickPlaysSaid : Prop := trickPlaysRow.holds Tryd.pinned (OpenSpec.ofChange trickPlaysSpec)

/-- ITS FALSE NEIGHBOUR: 'it returns false'. Refute it at one input. -/
def trickPlaysWrong : ChangeSpec := { name := "trickPlays", fn := fun _ => fun
  | [d1, d2, d3] => { results := [.lit (.bool false)], args := [d1, d2, d3] }
  | _ => none }
def TrickPlaysWrongFalsely : Prop := trickPlaysRow.holds Tryd.pinned (OpenSpec.ofChange trickPlaysWrong)

/-- 'finesselaw11.TrickSuits': WHATEVER THE INPUT: true; the input reads as it did. -/
def trickSuitsSpec : ChangeSpec := { name := "trickSuits", fn := fun _ => fun
  | [d1, d2, d3, d4] => { results := [.lit (.bool true)], args := [d1, d2, d3, d4] }
  | _ => none }
def trickSuitsRow : OpenClaim := { program := "ythilcnhnfdddhaadoor", sum := "d962c99cf8d0af56c3334cbd2d708efcda3bc349727e1b7f4f88ecc5695b1d98", func := "finesse/finesselaw11.TrickSuits", spec := "trickSuits", unfollowed := true, recurses := true, named := ["math/bits.deBruijn64tab"], apart := false, laid := [("math/bits.deBruijn64tab", laid_math_bits_deBruijn64tab)] }
def TrickSuitsSaid : Prop := trickSuitsRow.holds Tryd.pinned (OpenSpec.ofChange trickSuitsSpec)

/-- ITS FALSE NEIGHBOUR: 'it returns false'. Refute it at one input. -/
def trickSuitsWrong : ChangeSpec := { name := "trickSuits", fn := fun _ => fun
  | [d1, d2, d3, d4] => { results := [.lit (.bool false)], args := [d1, d2, d3, d4] }
  | _ => none }
def TrickSuitsWrongFalsely : Prop := trickSuitsRow.holds Tryd.pinned (OpenSpec.ofChange trickSuitsWrong)

/-- 'finesselaw11.TrickTells': WHATEVER THE INPUT: true; the input reads as it did. -/
def trickTellsSpec : ChangeSpec := { name := "trickTells", fn := fun _ => fun
  | [d1, d2, d3, d4] => { results := [.lit (.bool true)], args := [d1, d2, d3, d4] }
  | _ => none }
def trickTellsRow : OpenClaim := { program := "ythilcnhnfdddhaadoor", sum := "d962c99cf8d0af56c3334cbd2d708efcda3bc349727e1b7f4f88ecc5695b1d98", func := "finesse/finesselaw11.TrickTells", spec := "trickTells", unfollowed := true, recurses := true, named := ["math/bits.deBruijn64tab"], apart := false, laid := [("math/bits.deBruijn64tab", laid_math_bits_deBruijn64tab)] }
def TrickTellsSaid : Prop := trickTellsRow.holds Tryd.pinned (OpenSpec.ofChange trickTellsSpec)

/-- ITS FALSE NEIGHBOUR: 'it returns false'. Refute it at one input. -/
def trickTellsWrong : ChangeSpec := { name := "trickTells", fn := fun _ => fun
  | [d1, d2, d3, d4] => { results := [.lit (.bool false)], args := [d1, d2, d3, d4] }
  | _ => none }
def TrickTellsWrongFalsely : Prop := trickTellsRow.holds Tryd.pinned (OpenSpec.ofChange trickTellsWrong)

/-- 'finesselaw11.TrickSmall': WHATEVER THE INPUT: true; the input reads as it did. -/
def trickSmallSpec : ChangeSpec := { name := "trickSmall", fn := fun _ => fun
  | [] => { results := [.lit (.bool true)], args := [] }
  | _ => none }
def trickSmallRow : OpenClaim := { program := "ythilcnhnfdddhaadoor", sum := "d962c99cf8d0af56c3334cbd2d708efcda3bc349727e1b7f4f88ecc5695b1d98", func := "finesse/finesselaw11.TrickSmall", spec := "trickSmall", unfollowed := true, recurses := true, named := ["math/bits.deBruijn64tab"], apart := false, laid := [("math/bits.deBruijn64tab", laid_math_bits_deBruijn64tab)] }
def TrickSmallSaid : Prop := trickSmallRow.holds Tryd.pinned (OpenSpec.ofChange trickSmallSpec)

/-- ITS FALSE NEIGHBOUR: 'it returns false'. Refute it at one input. -/
def trickSmallWrong : ChangeSpec := { name := "trickSmall", fn := fun _ => fun
  | [] => { results := [.lit (.bool false)], args := [] }
  | _ => none }
def TrickSmallWrongFalsely : Prop := trickSmallRow.holds Tryd.pinned (OpenSpec.ofChange trickSmallWrong)

/-- 'finesselaw11.TrickWinners': WHATEVER THE INPUT: true; the input reads as it did. -/
def trickWinnersSpec : ChangeSpec := { name := "trickWinners", fn := fun _ => fun
  | [d1, d2, d3] => { results := [.lit (.bool true)], args := [d1, d2, d3] }
  | _ => none }
def trickWinnersRow : OpenClaim := { program := "ythilcnhnfdddhaadoor", sum := "d962c99cf8d0af56c3334cbd2d708efcda3bc349727e1b7f4f88ecc5695b1d98", func := "finesse/finesselaw11.TrickWinners", spec := "trickWinners", unfollowed := true, recurses := true, named := ["math/bits.deBruijn64tab"], apart := false, laid := [("math/bits.deBruijn64tab", laid_math_bits_deBruijn64tab)] }
def TrickWinnersSaid : Prop := trickWinnersRow.holds Tryd.pinned (OpenSpec.ofChange trickWinnersSpec)

/-- ITS FALSE NEIGHBOUR: 'it returns false'. Refute it at one input. -/
def trickWinnersWrong : ChangeSpec := { name := "trickWinners", fn := fun _ => fun
  | [d1, d2, d3] => { results := [.lit (.bool false)], args := [d1, d2, d3] }
  | _ => none }
def TrickWinnersWrongFalsely : Prop := trickWinnersRow.holds Tryd.pinned (OpenSpec.ofChange trickWinnersWrong)

/-- 'finesselaw11.TrickWinner': WHATEVER THE INPUT: true; the input reads as it did. -/
def trickWinnerSpec : ChangeSpec := { name := "trickWinner", fn := fun _ => fun
  | [d1, d2, d3] => { results := [.lit (.bool true)], args := [d1, d2, d3] }
  | _ => none }
def trickWinnerRow : OpenClaim := { program := "ythilcnhnfdddhaadoor", sum := "d962c99cf8d0af56c3334cbd2d708efcda3bc349727e1b7f4f88ecc5695b1d98", func := "finesse/finesselaw11.TrickWinner", spec := "trickWinner", unfollowed := true, recurses := true, named := ["math/bits.deBruijn64tab"], apart := false, laid := [("math/bits.deBruijn64tab", laid_math_bits_deBruijn64tab)] }
def TrickWinnerSaid : Prop := trickWinnerRow.holds Tryd.pinned (OpenSpec.ofChange trickWinnerSpec)

/-- ITS FALSE NEIGHBOUR: 'it returns false'. Refute it at one input. -/
def trickWinnerWrong : ChangeSpec := { name := "trickWinner", fn := fun _ => fun
  | [d1, d2, d3] => { results := [.lit (.bool false)], args := [d1, d2, d3] }
  | _ => none }
def TrickWinnerWrongFalsely : Prop := trickWinnerRow.holds Tryd.pinned (OpenSpec.ofChange trickWinnerWrong)

/-- 'finesselaw11.TrickWrong': WHATEVER THE INPUT: true; the input reads as it did. -/
def trickWrongSpec : ChangeSpec := { name := "trickWrong", fn := fun _ => fun
  | [d1, d2, d3, d4] => { results := [.lit (.bool true)], args := [d1, d2, d3, d4] }
  | _ => none }
def trickWrongRow : OpenClaim := { program := "ythilcnhnfdddhaadoor", sum := "d962c99cf8d0af56c3334cbd2d708efcda3bc349727e1b7f4f88ecc5695b1d98", func := "finesse/finesselaw11.TrickWrong", spec := "trickWrong", unfollowed := true, recurses := true, named := ["math/bits.deBruijn64tab"], apart := false, laid := [("math/bits.deBruijn64tab", laid_math_bits_deBruijn64tab)] }
def TrickWrongSaid : Prop := trickWrongRow.holds Tryd.pinned (OpenSpec.ofChange trickWrongSpec)

/-- ITS FALSE NEIGHBOUR: 'it returns false'. Refute it at one input. -/
def trickWrongWrong : ChangeSpec := { name := "trickWrong", fn := fun _ => fun
  | [d1, d2, d3, d4] => { results := [.lit (.bool false)], args := [d1, d2, d3, d4] }
  | _ => none }
def TrickWrongWrongFalsely : Prop := trickWrongRow.holds Tryd.pinned (OpenSpec.ofChange trickWrongWrong)

/-- 'finesselaw11.TrickFollow': WHATEVER THE INPUT: true; the input reads as it did. -/
def trickFollowSpec : ChangeSpec := { name := "trickFollow", fn := fun _ => fun
  | [d1, d2] => { results := [.lit (.bool true)], args := [d1, d2] }
  | _ => none }
def trickFollowRow : OpenClaim := { program := "ythilcnhnfdddhaadoor", sum := "d962c99cf8d0af56c3334cbd2d708efcda3bc349727e1b7f4f88ecc5695b1d98", func := "finesse/finesselaw11.TrickFollow", spec := "trickFollow", unfollowed := true, recurses := true, named := ["math/bits.deBruijn64tab"], apart := false, laid := [("math/bits.deBruijn64tab", laid_math_bits_deBruijn64tab)] }
def TrickFollowSaid : Prop := trickFollowRow.holds Tryd.pinned (OpenSpec.ofChange trickFollowSpec)

/-- ITS FALSE NEIGHBOUR: 'it returns false'. Refute it at one input. -/
def trickFollowWrong : ChangeSpec := { name := "trickFollow", fn := fun _ => fun
  | [d1, d2] => { results := [.lit (.bool false)], args := [d1, d2] }
  | _ => none }
def TrickFollowWrongFalsely : Prop := trickFollowRow.holds Tryd.pinned (OpenSpec.ofChange trickFollowWrong)

/- THE SECOND FORM. 'bulk': how many values and letters a reading holds, each counted each time it is reached (what is shared counts as often as it is met; a slice's spare places count too). A statement '..UptoSaid' is the law's where the arguments, and the package variables that the reading takes, are together of bulk at most 1048576: NARROWER than '..Said'. Prove '..Said' where nothing that the law and all that it calls make is longer than what came in: it says more and counts as full. Else prove '..UptoSaid'. A law counts once. -/
mutual
def uptoBulk {H : Type} : DataW H → Nat
  | .lit (.string bytes) => bytes.length + 1
  | .lit _ => 1
  | .nil => 1
  | .ptr d => uptoBulk d + 1
  | .slice elems spare => uptoBulkAll elems + uptoBulkAll spare + 1
  | .agg parts => uptoBulkAll parts + 1
  | .iface _ d => uptoBulk d + 1
  | .map entries => uptoBulkEntries entries + 1
  | .held _ => 1
def uptoBulkAll {H : Type} : List (DataW H) → Nat
  | [] => 0
  | d :: r => uptoBulk d + uptoBulkAll r
def uptoBulkEntries {H : Type} : List (Lit × DataW H) → Nat
  | [] => 0
  | x :: r => uptoBulkEntry x + uptoBulkEntries r
def uptoBulkEntry {H : Type} : Lit × DataW H → Nat
  | (.string bytes, d) => bytes.length + uptoBulk d + 1
  | (_, d) => uptoBulk d + 1
 end
def uptoSmall : (H : Type) → List (DataW H) → Bool := fun _ ds => decide (uptoBulkAll ds ≤ 1048576)
def OpenSpec.upto (s : _root_.Go.ChangeSpec) : _root_.Go.OpenSpec := { _root_.Go.OpenSpec.ofChange s with cond := some uptoSmall }

/-- 'finesselaw11.TrickPlays', WHERE WHAT IT READS IS OF BULK AT MOST 1048576: true; the input reads as it did. -/
def trickPlaysUptoRow : OpenClaim := { program := "ythilcnhnfdddhaadoor", sum := "d962c99cf8d0af56c3334cbd2d708efcda3bc349727e1b7f4f88ecc5695b1d98", func := "finesse/finesselaw11.TrickPlays", spec := "trickPlays", unfollowed := true, recurses := true, named := ["math/bits.deBruijn64tab"], apart := false, laid := [("math/bits.deBruijn64tab", laid_math_bits_deBruijn64tab)], narrowed := true }
def TrickPlaysUptoSaid : Prop := trickPlaysUptoRow.holds Tryd.pinned (OpenSpec.upto trickPlaysSpec)

/-- 'finesselaw11.TrickSuits', WHERE WHAT IT READS IS OF BULK AT MOST 1048576: true; the input reads as it did. -/
def trickSuitsUptoRow : OpenClaim := { program := "ythilcnhnfdddhaadoor", sum := "d962c99cf8d0af56c3334cbd2d708efcda3bc349727e1b7f4f88ecc5695b1d98", func := "finesse/finesselaw11.TrickSuits", spec := "trickSuits", unfollowed := true, recurses := true, named := ["math/bits.deBruijn64tab"], apart := false, laid := [("math/bits.deBruijn64tab", laid_math_bits_deBruijn64tab)], narrowed := true }
def TrickSuitsUptoSaid : Prop := trickSuitsUptoRow.holds Tryd.pinned (OpenSpec.upto trickSuitsSpec)

/-- 'finesselaw11.TrickTells', WHERE WHAT IT READS IS OF BULK AT MOST 1048576: true; the input reads as it did. -/
def trickTellsUptoRow : OpenClaim := { program := "ythilcnhnfdddhaadoor", sum := "d962c99cf8d0af56c3334cbd2d708efcda3bc349727e1b7f4f88ecc5695b1d98", func := "finesse/finesselaw11.TrickTells", spec := "trickTells", unfollowed := true, recurses := true, named := ["math/bits.deBruijn64tab"], apart := false, laid := [("math/bits.deBruijn64tab", laid_math_bits_deBruijn64tab)], narrowed := true }
def TrickTellsUptoSaid : Prop := trickTellsUptoRow.holds Tryd.pinned (OpenSpec.upto trickTellsSpec)

/-- 'finesselaw11.TrickSmall', WHERE WHAT IT READS IS OF BULK AT MOST 1048576: true; the input reads as it did. -/
def trickSmallUptoRow : OpenClaim := { program := "ythilcnhnfdddhaadoor", sum := "d962c99cf8d0af56c3334cbd2d708efcda3bc349727e1b7f4f88ecc5695b1d98", func := "finesse/finesselaw11.TrickSmall", spec := "trickSmall", unfollowed := true, recurses := true, named := ["math/bits.deBruijn64tab"], apart := false, laid := [("math/bits.deBruijn64tab", laid_math_bits_deBruijn64tab)], narrowed := true }
def TrickSmallUptoSaid : Prop := trickSmallUptoRow.holds Tryd.pinned (OpenSpec.upto trickSmallSpec)

/-- 'finesselaw11.TrickWinners', WHERE WHAT IT READS IS OF BULK AT MOST 1048576: true; the input reads as it did. -/
def trickWinnersUptoRow : OpenClaim := { program := "ythilcnhnfdddhaadoor", sum := "d962c99cf8d0af56c3334cbd2d708efcda3bc349727e1b7f4f88ecc5695b1d98", func := "finesse/finesselaw11.TrickWinners", spec := "trickWinners", unfollowed := true, recurses := true, named := ["math/bits.deBruijn64tab"], apart := false, laid := [("math/bits.deBruijn64tab", laid_math_bits_deBruijn64tab)], narrowed := true }
def TrickWinnersUptoSaid : Prop := trickWinnersUptoRow.holds Tryd.pinned (OpenSpec.upto trickWinnersSpec)

/-- 'finesselaw11.TrickWinner', WHERE WHAT IT READS IS OF BULK AT MOST 1048576: true; the input reads as it did. -/
def trickWinnerUptoRow : OpenClaim := { program := "ythilcnhnfdddhaadoor", sum := "d962c99cf8d0af56c3334cbd2d708efcda3bc349727e1b7f4f88ecc5695b1d98", func := "finesse/finesselaw11.TrickWinner", spec := "trickWinner", unfollowed := true, recurses := true, named := ["math/bits.deBruijn64tab"], apart := false, laid := [("math/bits.deBruijn64tab", laid_math_bits_deBruijn64tab)], narrowed := true }
def TrickWinnerUptoSaid : Prop := trickWinnerUptoRow.holds Tryd.pinned (OpenSpec.upto trickWinnerSpec)

/-- 'finesselaw11.TrickWrong', WHERE WHAT IT READS IS OF BULK AT MOST 1048576: true; the input reads as it did. -/
def trickWrongUptoRow : OpenClaim := { program := "ythilcnhnfdddhaadoor", sum := "d962c99cf8d0af56c3334cbd2d708efcda3bc349727e1b7f4f88ecc5695b1d98", func := "finesse/finesselaw11.TrickWrong", spec := "trickWrong", unfollowed := true, recurses := true, named := ["math/bits.deBruijn64tab"], apart := false, laid := [("math/bits.deBruijn64tab", laid_math_bits_deBruijn64tab)], narrowed := true }
def TrickWrongUptoSaid : Prop := trickWrongUptoRow.holds Tryd.pinned (OpenSpec.upto trickWrongSpec)

/-- 'finesselaw11.TrickFollow', WHERE WHAT IT READS IS OF BULK AT MOST 1048576: true; the input reads as it did. -/
def trickFollowUptoRow : OpenClaim := { program := "ythilcnhnfdddhaadoor", sum := "d962c99cf8d0af56c3334cbd2d708efcda3bc349727e1b7f4f88ecc5695b1d98", func := "finesse/finesselaw11.TrickFollow", spec := "trickFollow", unfollowed := true, recurses := true, named := ["math/bits.deBruijn64tab"], apart := false, laid := [("math/bits.deBruijn64tab", laid_math_bits_deBruijn64tab)], narrowed := true }
def TrickFollowUptoSaid : Prop := trickFollowUptoRow.holds Tryd.pinned (OpenSpec.upto trickFollowSpec)

end Rows
end Go.Proofs.YthilcnhnfdddhaaDoor
