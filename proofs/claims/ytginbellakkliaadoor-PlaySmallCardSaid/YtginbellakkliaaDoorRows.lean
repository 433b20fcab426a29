/-
  NARROWER THAN 'FOR EVERY INPUT', by the rows' own cells (each row's printed sentence says how): PlayTurned: laid · PlayWrong: laid · PlaySeen: laid · PlayLegal: laid · PlayBack: laid · PlayEnds: laid · PlayTells: laid · PlaySmall: laid.
  DERIVED. THE GIVEN ROWS OF THIS SEAT. 8 by the template 'for every input the law returns true; each argument reads behind the call as it read before'; 0 by the template 'total and deterministic' (their statements: YtginbellakkliaaDoorTotals.lean).
  GIVEN WITH THE SEED: the statements are not yours to turn. If you find one false, say at which input.
  Laid BY PROGRAM, IN A SANDBOX (cutbox-rows.mjs): the forced cells as the released guide's own fill.sh prints them over the translation 0c2ef2e8ac7ad5ee… (all of the seat's roots in one cut). By AI agents, Wed Nov 11 2026. No macro, syntax, notation, axiom, sorry.
-/
import Derived.Test.YtginbellakkliaaDoorChecked
import GoSem.Claim
import GoSem.ClaimJoined
import GoSem.ClaimMapViews
import Derived.JoinedTies
import Derived.KernelRfl
namespace Go.Proofs.YtginbellakkliaaDoor
/- THE CELL 'sum', in the pinned program and in every row, IS THE sha256 OF THE DUMP (.gsa) THAT YtginbellakkliaaDoorProg.lean LOADS. Nothing in Lean hashes anything: it is a label: what it is worth is what the hold of that sum in a sandbox is worth. -/
noncomputable def Tryd.pinned : Pinned := { name := "ytginbellakkliaadoor", sum := "0c2ef2e8ac7ad5ee5ad3b8120e48f08a265525debc665a54fdaf999c1910195c", checked := Tryd.checked }
namespace Rows
def none {H : Type} : Left H := { results := [], args := [] }

/- WHAT THE LISTED PACKAGE-LEVEL VARIABLES READ AS WHEN THE CALL BEGINS. Each datum BY PROGRAM (the guide's laid-datum.mjs) off the statement by which the dump's own 'gosem.cut.vars' lays the variable. In a bare row this is a premise. The card (YtginbellakkliaaDoorCards.lean) ties it to the program's text. -/
def laid_math_bits_deBruijn64tab {H : Type} : DataW H := .agg [.lit (.int .u8 0), .lit (.int .u8 1), .lit (.int .u8 56), .lit (.int .u8 2), .lit (.int .u8 57), .lit (.int .u8 49), .lit (.int .u8 28), .lit (.int .u8 3), .lit (.int .u8 61), .lit (.int .u8 58), .lit (.int .u8 42), .lit (.int .u8 50), .lit (.int .u8 38), .lit (.int .u8 29), .lit (.int .u8 17), .lit (.int .u8 4), .lit (.int .u8 62), .lit (.int .u8 47), .lit (.int .u8 59), .lit (.int .u8 36), .lit (.int .u8 45), .lit (.int .u8 43), .lit (.int .u8 51), .lit (.int .u8 22), .lit (.int .u8 53), .lit (.int .u8 39), .lit (.int .u8 33), .lit (.int .u8 30), .lit (.int .u8 24), .lit (.int .u8 18), .lit (.int .u8 12), .lit (.int .u8 5), .lit (.int .u8 63), .lit (.int .u8 55), .lit (.int .u8 48), .lit (.int .u8 27), .lit (.int .u8 60), .lit (.int .u8 41), .lit (.int .u8 37), .lit (.int .u8 16), .lit (.int .u8 46), .lit (.int .u8 35), .lit (.int .u8 44), .lit (.int .u8 21), .lit (.int .u8 52), .lit (.int .u8 32), .lit (.int .u8 23), .lit (.int .u8 11), .lit (.int .u8 54), .lit (.int .u8 26), .lit (.int .u8 40), .lit (.int .u8 15), .lit (.int .u8 34), .lit (.int .u8 20), .lit (.int .u8 31), .lit (.int .u8 10), .lit (.int .u8 25), .lit (.int .u8 14), .lit (.int .u8 19), .lit (.int .u8 9), .lit (.int .u8 13), .lit (.int .u8 8), .lit (.int .u8 7), .lit (.int .u8 6)]

/-- 'finesselaw12.PlayTurned': WHATEVER THE INPUT: true; the input reads as it did. -/
def playTurnedSpec : ChangeSpec := { name := "playTurned", fn := fun _ => fun
  | [d1, d2, d3, d4, d5] => { results := [.lit (.bool true)], args := [d1, d2, d3, d4, d5] }
  | _ => none }
def playTurnedRow : OpenClaim := { program := "ytginbellakkliaadoor", sum := "0c2ef2e8ac7ad5ee5ad3b8120e48f08a265525debc665a54fdaf999c1910195c", func := "finesse/finesselaw12.PlayTurned", spec := "playTurned", unfollowed := true, recurses := true, named := ["math/bits.deBruijn64tab"], apart := false, laid := [("math/bits.deBruijn64tab", laid_math_bits_deBruijn64tab)] }
def PlayTurnedSaid : Prop := playTurnedRow.holds Tryd.pinned (OpenSpec.ofChange playTurnedSpec)

/-- ITS FALSE NEIGHBOUR: 'it returns false'. Refute it at one input. -/
def playTurnedWrong : ChangeSpec := { name := "playTurned", fn := fun _ => fun
  | [d1, d2, d3, d4, d5] => { results := [.lit (.bool false)], args := [d1, d2, d3, d4, d5] }
  | _ => none }
def PlayTurnedWrongFalsely : Prop := playTurnedRow.holds Tryd.pinned (OpenSpec.ofChange playTurnedWrong)

/-- 'finesselaw12.PlayWrong': WHATEVER THE INPUT: true; the input reads as it did. -/
def playWrongSpec : ChangeSpec := { name := "playWrong", fn := fun _ => fun
  | [d1, d2, d3, d4, d5] => { results := [.lit (.bool true)], args := [d1, d2, d3, d4, d5] }
  | _ => none }
def playWrongRow : OpenClaim := { program := "ytginbellakkliaadoor", sum := "0c2ef2e8ac7ad5ee5ad3b8120e48f08a265525debc665a54fdaf999c1910195c", func := "finesse/finesselaw12.PlayWrong", spec := "playWrong", unfollowed := true, recurses := true, named := ["math/bits.deBruijn64tab"], apart := false, laid := [("math/bits.deBruijn64tab", laid_math_bits_deBruijn64tab)] }
def PlayWrongSaid : Prop := playWrongRow.holds Tryd.pinned (OpenSpec.ofChange playWrongSpec)

/-- ITS FALSE NEIGHBOUR: 'it returns false'. Refute it at one input. -/
def playWrongWrong : ChangeSpec := { name := "playWrong", fn := fun _ => fun
  | [d1, d2, d3, d4, d5] => { results := [.lit (.bool false)], args := [d1, d2, d3, d4, d5] }
  | _ => none }
def PlayWrongWrongFalsely : Prop := playWrongRow.holds Tryd.pinned (OpenSpec.ofChange playWrongWrong)

/-- 'finesselaw12.PlaySeen': WHATEVER THE INPUT: true; the input reads as it did. -/
def playSeenSpec : ChangeSpec := { name := "playSeen", fn := fun _ => fun
  | [d1, d2, d3, d4] => { results := [.lit (.bool true)], args := [d1, d2, d3, d4] }
  | _ => none }
def playSeenRow : OpenClaim := { program := "ytginbellakkliaadoor", sum := "0c2ef2e8ac7ad5ee5ad3b8120e48f08a265525debc665a54fdaf999c1910195c", func := "finesse/finesselaw12.PlaySeen", spec := "playSeen", unfollowed := true, recurses := true, named := ["math/bits.deBruijn64tab"], apart := false, laid := [("math/bits.deBruijn64tab", laid_math_bits_deBruijn64tab)] }
def PlaySeenSaid : Prop := playSeenRow.holds Tryd.pinned (OpenSpec.ofChange playSeenSpec)

/-- ITS FALSE NEIGHBOUR: 'it returns false'. Refute it at one input. -/
def playSeenWrong : ChangeSpec := { name := "playSeen", fn := fun _ => fun
  | [d1, d2, d3, d4] => { results := [.lit (.bool false)], args := [d1, d2, d3, d4] }
  | _ => none }
def PlaySeenWrongFalsely : Prop := playSeenRow.holds Tryd.pinned (OpenSpec.ofChange playSeenWrong)

/-- 'finesselaw12.PlayLegal': WHATEVER THE INPUT: true; the input reads as it did. -/
def playLegalSpec : ChangeSpec := { name := "playLegal", fn := fun _ => fun
  | [d1, d2, d3, d4] => { results := [.lit (.bool true)], args := [d1, d2, d3, d4] }
  | _ => none }
def playLegalRow : OpenClaim := { program := "ytginbellakkliaadoor", sum := "0c2ef2e8ac7ad5ee5ad3b8120e48f08a265525debc665a54fdaf999c1910195c", func := "finesse/finesselaw12.PlayLegal", spec := "playLegal", unfollowed := true, recurses := true, named := ["math/bits.deBruijn64tab"], apart := false, laid := [("math/bits.deBruijn64tab", laid_math_bits_deBruijn64tab)] }
def PlayLegalSaid : Prop := playLegalRow.holds Tryd.pinned (OpenSpec.ofChange playLegalSpec)

/-- ITS FALSE NEIGHBOUR: 'it returns false'. Refute it at one input. -/
def playLegalWrong : ChangeSpec := { name := "playLegal", fn := fun _ => fun
  | [d1, d2, d3, d4] => { results := [.lit (.bool false)], args := [d1, d2, d3, d4] }
  | _ => none }
def PlayLegalWrongFalsely : Prop := playLegalRow.holds Tryd.pinned (OpenSpec.ofChange playLegalWrong)

/-- 'finesselaw12.PlayBack': WHATEVER THE INPUT: true; the input reads as it did. -/
def playBackSpec : ChangeSpec := { name := "playBack", fn := fun _ => fun
  | [d1, d2, d3, d4, d5] => { results := [.lit (.bool true)], args := [d1, d2, d3, d4, d5] }
  | _ => none }
def playBackRow : OpenClaim := { program := "ytginbellakkliaadoor", sum := "0c2ef2e8ac7ad5ee5ad3b8120e48f08a265525debc665a54fdaf999c1910195c", func := "finesse/finesselaw12.PlayBack", spec := "playBack", unfollowed := true, recurses := true, named := ["math/bits.deBruijn64tab"], apart := false, laid := [("math/bits.deBruijn64tab", laid_math_bits_deBruijn64tab)] }
def PlayBackSaid : Prop := playBackRow.holds Tryd.pinned (OpenSpec.ofChange playBackSpec)

/-- ITS FALSE NEIGHBOUR: 'it returns false'. Refute it at one input. -/
def playBackWrong : ChangeSpec := { name := "playBack", fn := fun _ => fun
  | [d1, d2, d3, d4, d5] => { results := [.lit (.bool false)], args := [d1, d2, d3, d4, d5] }
  | _ => none }
def PlayBackWrongFalsely : Prop := playBackRow.holds Tryd.pinned (OpenSpec.ofChange playBackWrong)

/-- 'finesselaw12.PlayEnds': WHATEVER THE INPUT: true; the input reads as it did. -/
def playEndsSpec : ChangeSpec := { name := "playEnds", fn := fun _ => fun
  | [d1, d2, d3, d4] => { results := [.lit (.bool true)], args := [d1, d2, d3, d4] }
  | _ => none }
def playEndsRow : OpenClaim := { program := "ytginbellakkliaadoor", sum := "0c2ef2e8ac7ad5ee5ad3b8120e48f08a265525debc665a54fdaf999c1910195c", func := "finesse/finesselaw12.PlayEnds", spec := "playEnds", unfollowed := true, recurses := true, named := ["math/bits.deBruijn64tab"], apart := false, laid := [("math/bits.deBruijn64tab", laid_math_bits_deBruijn64tab)] }
def PlayEndsSaid : Prop := playEndsRow.holds Tryd.pinned (OpenSpec.ofChange playEndsSpec)

/-- ITS FALSE NEIGHBOUR: 'it returns false'. Refute it at one input. -/
def playEndsWrong : ChangeSpec := { name := "playEnds", fn := fun _ => fun
  | [d1, d2, d3, d4] => { results := [.lit (.bool false)], args := [d1, d2, d3, d4] }
  | _ => none }
def PlayEndsWrongFalsely : Prop := playEndsRow.holds Tryd.pinned (OpenSpec.ofChange playEndsWrong)

/-- 'finesselaw12.PlayTells': WHATEVER THE INPUT: true; the input reads as it did. -/
def playTellsSpec : ChangeSpec := { name := "playTells", fn := fun _ => fun
  | [d1, d2, d3] => { results := [.lit (.bool true)], args := [d1, d2, d3] }
  | _ => none }
def playTellsRow : OpenClaim := { program := "ytginbellakkliaadoor", sum := "0c2ef2e8ac7ad5ee5ad3b8120e48f08a265525debc665a54fdaf999c1910195c", func := "finesse/finesselaw12.PlayTells", spec := "playTells", unfollowed := true, recurses := true, named := ["math/bits.deBruijn64tab"], apart := false, laid := [("math/bits.deBruijn64tab", laid_math_bits_deBruijn64tab)] }
def PlayTellsSaid : Prop := playTellsRow.holds Tryd.pinned (OpenSpec.ofChange playTellsSpec)

/-- ITS FALSE NEIGHBOUR: 'it returns false'. Refute it at one input. -/
def playTellsWrong : ChangeSpec := { name := "playTells", fn := fun _ => fun
  | [d1, d2, d3] => { results := [.lit (.bool false)], args := [d1, d2, d3] }
  | _ => none }
def PlayTellsWrongFalsely : Prop := playTellsRow.holds Tryd.pinned (OpenSpec.ofChange playTellsWrong)

/-- 'finesselaw12.PlaySmall': WHATEVER THE INPUT: true; the input reads as it did. -/
def playSmallSpec : ChangeSpec := { name := "playSmall", fn := fun _ => fun
  | [] => { results := [.lit (.bool true)], args := [] }
  | _ => none }
def playSmallRow : OpenClaim := { program := "ytginbellakkliaadoor", sum := "0c2ef2e8ac7ad5ee5ad3b8120e48f08a265525debc665a54fdaf999c1910195c", func := "finesse/finesselaw12.PlaySmall", spec := "playSmall", unfollowed := true, recurses := true, named := ["math/bits.deBruijn64tab"], apart := false, laid := [("math/bits.deBruijn64tab", laid_math_bits_deBruijn64tab)] }
def PlaySmallSaid : Prop := playSmallRow.holds Tryd.pinned (OpenSpec.ofChange playSmallSpec)

/-- ITS FALSE NEIGHBOUR: 'it returns false'. Refute it at one input. -/
def playSmallWrong : ChangeSpec := { name := "playSmall", fn := fun _ => fun
  | [] => { results := [.lit (.bool false)], args := [] }
  | _ => none }
def PlaySmallWrongFalsely : Prop := playSmallRow.holds Tryd.pinned (OpenSpec.ofChange playSmallWrong)

/- THE SECOND FORM. 'bulk': how many values and letters a reading holds, each counted each time it is reached (what is shared counts as often as it is met; a slice's spare places count too). A statement '..UptoSaid' is the law's where the arguments, and the package variables that the reading takes, are together of bulk at most 1048576: NARROWER than '..Said'. Prove '..Said' where nothing that the law and all that it calls make is longer than what came in: it says more and counts as full. Else prove '..UptoSaid'. A law counts once. -/
mutual
def uptoBulk {H : Type} : DataW H → Nat
  | .lit (.string bytes) => bytes.length + 1
  | .lit _ => 1
  | .nil => 1
  | .ptr d => uptoBulk d + 1
  | .slice elems spare => uptoBulkAll elems + uptoBulkAll spare + 1
  | .agg parts => uptoBulkAll parts + 1
  | .iface _ d => uptoBulk d + 1
  | .map entries => uptoBulkEntries entries + 1
  | .held _ => 1
def uptoBulkAll {H : Type} : List (DataW H) → Nat
  | [] => 0
  | d :: r => uptoBulk d + uptoBulkAll r
def uptoBulkEntries {H : Type} : List (Lit × DataW H) → Nat
  | [] => 0
  | x :: r => uptoBulkEntry x + uptoBulkEntries r
def uptoBulkEntry {H : Type} : Lit × DataW H → Nat
  | (.string bytes, d) => bytes.length + uptoBulk d + 1
  | (_, d) => uptoBulk d + 1
 end
def uptoSmall : (H : Type) → List (DataW H) → Bool := fun _ ds => decide (uptoBulkAll ds ≤ 1048576)
def OpenSpec.upto (s : _root_.Go.ChangeSpec) : _root_.Go.OpenSpec := { _root_.Go.OpenSpec.ofChange s with cond := some uptoSmall }

/-- 'finesselaw12.PlayTurned', WHERE WHAT IT READS IS OF BULK AT MOST 1048576: true; the input reads as it did. -/
def playTurnedUptoRow : OpenClaim := { program := "ytginbellakkliaadoor", sum := "0c2ef2e8ac7ad5ee5ad3b8120e48f08a265525debc665a54fdaf999c1910195c", func := "finesse/finesselaw12.PlayTurned", spec := "playTurned", unfollowed := true, recurses := true, named := ["math/bits.deBruijn64tab"], apart := false, laid := [("math/bits.deBruijn64tab", laid_math_bits_deBruijn64tab)], narrowed := true }
def PlayTurnedUptoSaid : Prop := playTurnedUptoRow.holds Tryd.pinned (OpenSpec.upto playTurnedSpec)

/-- 'finesselaw12.PlayWrong', WHERE WHAT IT READS IS OF BULK AT MOST 1048576: true; the input reads as it did. -/
def playWrongUptoRow : OpenClaim := { program := "ytginbellakkliaadoor", sum := "0c2ef2e8ac7ad5ee5ad3b8120e48f08a265525debc665a54fdaf999c1910195c", func := "finesse/finesselaw12.PlayWrong", spec := "playWrong", unfollowed := true, recurses := true, named := ["math/bits.deBruijn64tab"], apart := false, laid := [("math/bits.deBruijn64tab", laid_math_bits_deBruijn64tab)], narrowed := true }
def PlayWrongUptoSaid : Prop := playWrongUptoRow.holds Tryd.pinned (OpenSpec.upto playWrongSpec)

/-- 'finesselaw12.PlaySeen', WHERE WHAT IT READS IS OF BULK AT MOST 1048576: true; the input reads as it did. -/
def playSeenUptoRow : OpenClaim := { program := "ytginbellakkliaadoor", sum := "0c2ef2e8ac7ad5ee5ad3b8120e48f08a265525debc665a54fdaf999c1910195c", func := "finesse/finesselaw12.PlaySeen", spec := "playSeen", unfollowed := true, recurses := true, named := ["math/bits.deBruijn64tab"], apart := false, laid := [("math/bits.deBruijn64tab", laid_math_bits_deBruijn64tab)], narrowed := true }
def PlaySeenUptoSaid : Prop := playSeenUptoRow.holds Tryd.pinned (OpenSpec.upto playSeenSpec)

/-- 'finesselaw12.PlayLegal', WHERE WHAT IT READS IS OF BULK AT MOST 1048576: true; the input reads as it did. -/
def playLegalUptoRow : OpenClaim := { program := "ytginbellakkliaadoor", sum := "0c2ef2e8ac7ad5ee5ad3b8120e48f08a265525debc665a54fdaf999c1910195c", func := "finesse/finesselaw12.PlayLegal", spec := "playLegal", unfollowed := true, recurses := true, named := ["math/bits.deBruijn64tab"], apart := false, laid := [("math/bits.deBruijn64tab", laid_math_bits_deBruijn64tab)], narrowed := true }
def PlayLegalUptoSaid : Prop := playLegalUptoRow.holds Tryd.pinned (OpenSpec.upto playLegalSpec)

/-- 'finesselaw12.PlayBack', WHERE WHAT IT READS IS OF BULK AT MOST 1048576: true; the input reads as it did. -/
def playBackUptoRow : OpenClaim := { program := "ytginbellakkliaadoor", sum := "0c2ef2e8ac7ad5ee5ad3b8120e48f08a265525debc665a54fdaf999c1910195c", func := "finesse/finesselaw12.PlayBack", spec := "playBack", unfollowed := true, recurses := true, named := ["math/bits.deBruijn64tab"], apart := false, laid := [("math/bits.deBruijn64tab", laid_math_bits_deBruijn64tab)], narrowed := true }
def PlayBackUptoSaid : Prop := playBackUptoRow.holds Tryd.pinned (OpenSpec.upto playBackSpec)

/-- 'finesselaw12.PlayEnds', WHERE WHAT IT READS IS OF BULK AT MOST 1048576: true; the input reads as it did. -/
def playEndsUptoRow : OpenClaim := { program := "ytginbellakkliaadoor", sum := "0c2ef2e8ac7ad5ee5ad3b8120e48f08a265525debc665a54fdaf999c1910195c", func := "finesse/finesselaw12.PlayEnds", spec := "playEnds", unfollowed := true, recurses := true, named := ["math/bits.deBruijn64tab"], apart := false, laid := [("math/bits.deBruijn64tab", laid_math_bits_deBruijn64tab)], narrowed := true }
def PlayEndsUptoSaid : Prop := playEndsUptoRow.holds Tryd.pinned (OpenSpec.upto playEndsSpec)

/-- 'finesselaw12.PlayTells', WHERE WHAT IT READS IS OF BULK AT MOST 1048576: true; the input reads as it did. -/
def playTellsUptoRow : OpenClaim := { program := "ytginbellakkliaadoor", sum := "0c2ef2e8ac7ad5ee5ad3b8120e48f08a265525debc665a54fdaf999c1910195c", func := "finesse/finesselaw12.PlayTells", spec := "playTells", unfollowed := true, recurses := true, named := ["math/bits.deBruijn64tab"], apart := false, laid := [("math/bits.deBruijn64tab", laid_math_bits_deBruijn64tab)], narrowed := true }
def PlayTellsUptoSaid : Prop := playTellsUptoRow.holds Tryd.pinned (OpenSpec.upto playTellsSpec)

/-- 'finesselaw12.PlaySmall', WHERE WHAT IT READS IS OF BULK AT MOST 1048576: true; the input reads as it did. -/
def playSmallUptoRow : OpenClaim := { program := "ytginbellakkliaadoor", sum := "0c2ef2e8ac7ad5ee5ad3b8120e48f08a265525debc665a54fdaf999c1910195c", func := "finesse/finesselaw12.PlaySmall", spec := "playSmall", unfollowed := true, recurses := true, named := ["math/bits.deBruijn64tab"], apart := false, laid := [("math/bits.deBruijn64tab", laid_math_bits_deBruijn64tab)], narrowed := true }
def PlaySmallUptoSaid : Prop := playSmallUptoRow.holds Tryd.pinned (OpenSpec.upto playSmallSpec)

end Rows
end Go.Proofs.YtginbellakkliaaDoor
