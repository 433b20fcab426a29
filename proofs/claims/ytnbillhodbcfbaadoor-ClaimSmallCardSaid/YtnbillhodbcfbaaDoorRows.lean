/-
  NARROWER THAN 'FOR EVERY INPUT', by the rows' own cells (each row's printed sentence says how): ClaimSmall: laid · ClaimSafe: laid · ClaimTells: laid · ClaimAwards: laid · ClaimSides: laid · ClaimLonger: laid · ClaimWrong: laid.
  DERIVED. THE GIVEN ROWS OF THIS SEAT. 7 by the template 'for every input the law returns true; each argument reads behind the call as it read before'; 0 by the template 'total and deterministic' (their statements: YtnbillhodbcfbaaDoorTotals.lean).
  GIVEN WITH THE SEED: the statements are not yours to turn. If you find one false, say at which input.
  Laid BY PROGRAM, IN A SANDBOX (cutbox-rows.mjs): the forced cells as the released guide's own fill.sh prints them over the translation 2d42d6198685cd84… (all of the seat's roots in one cut). By AI agents, Wed Nov 11 2026. No macro, syntax, notation, axiom, sorry.
-/
import Derived.Test.YtnbillhodbcfbaaDoorChecked
import GoSem.Claim
import GoSem.ClaimJoined
import GoSem.ClaimMapViews
import Derived.JoinedTies
import Derived.KernelRfl
namespace Go.Proofs.YtnbillhodbcfbaaDoor
/- THE CELL 'sum', in the pinned program and in every row, IS THE sha256 OF THE DUMP (.gsa) THAT YtnbillhodbcfbaaDoorProg.lean LOADS. Nothing in Lean hashes anything: it is a label: what it is worth is what the hold of that sum in a sandbox is worth. -/
noncomputable def Tryd.pinned : Pinned := { name := "ytnbillhodbcfbaadoor", sum := "2d42d6198685cd845b2126321f935a4c3f55bc6ed0e9bea13d7f3fe628618e62", checked := Tryd.checked }
namespace Rows
def none {H : Type} : Left H := { results := [], args := [] }

/- WHAT THE LISTED PACKAGE-LEVEL VARIABLES READ AS WHEN THE CALL BEGINS. Each datum BY PROGRAM (the guide's laid-datum.mjs) off the statement by which the dump's own 'gosem.cut.vars' lays the variable. In a bare row this is a premise. The card (YtnbillhodbcfbaaDoorCards.lean) ties it to the program's text. -/
def laid_math_bits_deBruijn64tab {H : Type} : DataW H := .agg [.lit (.int .u8 0), .lit (.int .u8 1), .lit (.int .u8 56), .lit (.int .u8 2), .lit (.int .u8 57), .lit (.int .u8 49), .lit (.int .u8 28), .lit (.int .u8 3), .lit (.int .u8 61), .lit (.int .u8 58), .lit (.int .u8 42), .lit (.int .u8 50), .lit (.int .u8 38), .lit (.int .u8 29), .lit (.int .u8 17), .lit (.int .u8 4), .lit (.int .u8 62), .lit (.int .u8 47), .lit (.int .u8 59), .lit (.int .u8 36), .lit (.int .u8 45), .lit (.int .u8 43), .lit (.int .u8 51), .lit (.int .u8 22), .lit (.int .u8 53), .lit (.int .u8 39), .lit (.int .u8 33), .lit (.int .u8 30), .lit (.int .u8 24), .lit (.int .u8 18), .lit (.int .u8 12), .lit (.int .u8 5), .lit (.int .u8 63), .lit (.int .u8 55), .lit (.int .u8 48), .lit (.int .u8 27), .lit (.int .u8 60), .lit (.int .u8 41), .lit (.int .u8 37), .lit (.int .u8 16), .lit (.int .u8 46), .lit (.int .u8 35), .lit (.int .u8 44), .lit (.int .u8 21), .lit (.int .u8 52), .lit (.int .u8 32), .lit (.int .u8 23), .lit (.int .u8 11), .lit (.int .u8 54), .lit (.int .u8 26), .lit (.int .u8 40), .lit (.int .u8 15), .lit (.int .u8 34), .lit (.int .u8 20), .lit (.int .u8 31), .lit (.int .u8 10), .lit (.int .u8 25), .lit (.int .u8 14), .lit (.int .u8 19), .lit (.int .u8 9), .lit (.int .u8 13), .lit (.int .u8 8), .lit (.int .u8 7), .lit (.int .u8 6)]

/-- 'finesselaw16.ClaimSmall': WHATEVER THE INPUT: true; the input reads as it did. -/
def claimSmallSpec : ChangeSpec := { name := "claimSmall", fn := fun _ => fun
  | [] => { results := [.lit (.bool true)], args := [] }
  | _ => none }
def claimSmallRow : OpenClaim := { program := "ytnbillhodbcfbaadoor", sum := "2d42d6198685cd845b2126321f935a4c3f55bc6ed0e9bea13d7f3fe628618e62", func := "finesse/finesselaw16.ClaimSmall", spec := "claimSmall", unfollowed := true, recurses := true, named := ["math/bits.deBruijn64tab"], plainKeys := false, apart := false, laid := [("math/bits.deBruijn64tab", laid_math_bits_deBruijn64tab)] }
def ClaimSmallSaid : Prop := claimSmallRow.holds Tryd.pinned (OpenSpec.ofChange claimSmallSpec)

/-- ITS FALSE NEIGHBOUR: 'it returns false'. Refute it at one input. -/
def claimSmallWrong : ChangeSpec := { name := "claimSmall", fn := fun _ => fun
  | [] => { results := [.lit (.bool false)], args := [] }
  | _ => none }
def ClaimSmallWrongFalsely : Prop := claimSmallRow.holds Tryd.pinned (OpenSpec.ofChange claimSmallWrong)

/-- 'finesselaw16.ClaimSafe': WHATEVER THE INPUT: true; the input reads as it did. -/
def claimSafeSpec : ChangeSpec := { name := "claimSafe", fn := fun _ => fun
  | [d1, d2, d3, d4, d5, d6, d7] => { results := [.lit (.bool true)], args := [d1, d2, d3, d4, d5, d6, d7] }
  | _ => none }
def claimSafeRow : OpenClaim := { program := "ytnbillhodbcfbaadoor", sum := "2d42d6198685cd845b2126321f935a4c3f55bc6ed0e9bea13d7f3fe628618e62", func := "finesse/finesselaw16.ClaimSafe", spec := "claimSafe", unfollowed := true, recurses := true, named := ["math/bits.deBruijn64tab"], plainKeys := false, apart := false, laid := [("math/bits.deBruijn64tab", laid_math_bits_deBruijn64tab)] }
def ClaimSafeSaid : Prop := claimSafeRow.holds Tryd.pinned (OpenSpec.ofChange claimSafeSpec)

/-- ITS FALSE NEIGHBOUR: 'it returns false'. Refute it at one input. -/
def claimSafeWrong : ChangeSpec := { name := "claimSafe", fn := fun _ => fun
  | [d1, d2, d3, d4, d5, d6, d7] => { results := [.lit (.bool false)], args := [d1, d2, d3, d4, d5, d6, d7] }
  | _ => none }
def ClaimSafeWrongFalsely : Prop := claimSafeRow.holds Tryd.pinned (OpenSpec.ofChange claimSafeWrong)

/-- 'finesselaw16.ClaimTells': WHATEVER THE INPUT: true; the input reads as it did. -/
def claimTellsSpec : ChangeSpec := { name := "claimTells", fn := fun _ => fun
  | [d1, d2, d3, d4] => { results := [.lit (.bool true)], args := [d1, d2, d3, d4] }
  | _ => none }
def claimTellsRow : OpenClaim := { program := "ytnbillhodbcfbaadoor", sum := "2d42d6198685cd845b2126321f935a4c3f55bc6ed0e9bea13d7f3fe628618e62", func := "finesse/finesselaw16.ClaimTells", spec := "claimTells", unfollowed := true, recurses := true, named := ["math/bits.deBruijn64tab"], plainKeys := false, apart := false, laid := [("math/bits.deBruijn64tab", laid_math_bits_deBruijn64tab)] }
def ClaimTellsSaid : Prop := claimTellsRow.holds Tryd.pinned (OpenSpec.ofChange claimTellsSpec)

/-- ITS FALSE NEIGHBOUR: 'it returns false'. Refute it at one input. -/
def claimTellsWrong : ChangeSpec := { name := "claimTells", fn := fun _ => fun
  | [d1, d2, d3, d4] => { results := [.lit (.bool false)], args := [d1, d2, d3, d4] }
  | _ => none }
def ClaimTellsWrongFalsely : Prop := claimTellsRow.holds Tryd.pinned (OpenSpec.ofChange claimTellsWrong)

/-- 'finesselaw16.ClaimAwards': WHATEVER THE INPUT: true; the input reads as it did. -/
def claimAwardsSpec : ChangeSpec := { name := "claimAwards", fn := fun _ => fun
  | [d1, d2, d3, d4, d5, d6] => { results := [.lit (.bool true)], args := [d1, d2, d3, d4, d5, d6] }
  | _ => none }
def claimAwardsRow : OpenClaim := { program := "ytnbillhodbcfbaadoor", sum := "2d42d6198685cd845b2126321f935a4c3f55bc6ed0e9bea13d7f3fe628618e62", func := "finesse/finesselaw16.ClaimAwards", spec := "claimAwards", unfollowed := true, recurses := true, named := ["math/bits.deBruijn64tab"], plainKeys := false, apart := false, laid := [("math/bits.deBruijn64tab", laid_math_bits_deBruijn64tab)] }
def ClaimAwardsSaid : Prop := claimAwardsRow.holds Tryd.pinned (OpenSpec.ofChange claimAwardsSpec)

/-- ITS FALSE NEIGHBOUR: 'it returns false'. Refute it at one input. -/
def claimAwardsWrong : ChangeSpec := { name := "claimAwards", fn := fun _ => fun
  | [d1, d2, d3, d4, d5, d6] => { results := [.lit (.bool false)], args := [d1, d2, d3, d4, d5, d6] }
  | _ => none }
def ClaimAwardsWrongFalsely : Prop := claimAwardsRow.holds Tryd.pinned (OpenSpec.ofChange claimAwardsWrong)

/-- 'finesselaw16.ClaimSides': WHATEVER THE INPUT: true; the input reads as it did. -/
def claimSidesSpec : ChangeSpec := { name := "claimSides", fn := fun _ => fun
  | [d1, d2, d3, d4, d5] => { results := [.lit (.bool true)], args := [d1, d2, d3, d4, d5] }
  | _ => none }
def claimSidesRow : OpenClaim := { program := "ytnbillhodbcfbaadoor", sum := "2d42d6198685cd845b2126321f935a4c3f55bc6ed0e9bea13d7f3fe628618e62", func := "finesse/finesselaw16.ClaimSides", spec := "claimSides", unfollowed := true, recurses := true, named := ["math/bits.deBruijn64tab"], plainKeys := false, apart := false, laid := [("math/bits.deBruijn64tab", laid_math_bits_deBruijn64tab)] }
def ClaimSidesSaid : Prop := claimSidesRow.holds Tryd.pinned (OpenSpec.ofChange claimSidesSpec)

/-- ITS FALSE NEIGHBOUR: 'it returns false'. Refute it at one input. -/
def claimSidesWrong : ChangeSpec := { name := "claimSides", fn := fun _ => fun
  | [d1, d2, d3, d4, d5] => { results := [.lit (.bool false)], args := [d1, d2, d3, d4, d5] }
  | _ => none }
def ClaimSidesWrongFalsely : Prop := claimSidesRow.holds Tryd.pinned (OpenSpec.ofChange claimSidesWrong)

/-- 'finesselaw16.ClaimLonger': WHATEVER THE INPUT: true; the input reads as it did. -/
def claimLongerSpec : ChangeSpec := { name := "claimLonger", fn := fun _ => fun
  | [d1, d2, d3, d4, d5, d6] => { results := [.lit (.bool true)], args := [d1, d2, d3, d4, d5, d6] }
  | _ => none }
def claimLongerRow : OpenClaim := { program := "ytnbillhodbcfbaadoor", sum := "2d42d6198685cd845b2126321f935a4c3f55bc6ed0e9bea13d7f3fe628618e62", func := "finesse/finesselaw16.ClaimLonger", spec := "claimLonger", unfollowed := true, recurses := true, named := ["math/bits.deBruijn64tab"], plainKeys := false, apart := false, laid := [("math/bits.deBruijn64tab", laid_math_bits_deBruijn64tab)] }
def ClaimLongerSaid : Prop := claimLongerRow.holds Tryd.pinned (OpenSpec.ofChange claimLongerSpec)

/-- ITS FALSE NEIGHBOUR: 'it returns false'. Refute it at one input. -/
def claimLongerWrong : ChangeSpec := { name := "claimLonger", fn := fun _ => fun
  | [d1, d2, d3, d4, d5, d6] => { results := [.lit (.bool false)], args := [d1, d2, d3, d4, d5, d6] }
  | _ => none }
def ClaimLongerWrongFalsely : Prop := claimLongerRow.holds Tryd.pinned (OpenSpec.ofChange claimLongerWrong)

/-- 'finesselaw16.ClaimWrong': WHATEVER THE INPUT: true; the input reads as it did. -/
def claimWrongSpec : ChangeSpec := { name := "claimWrong", fn := fun _ => fun
  | [d1, d2, d3, d4, d5] => { results := [.lit (.bool true)], args := [d1, d2, d3, d4, d5] }
  | _ => none }
def claimWrongRow : OpenClaim := { program := "ytnbillhodbcfbaadoor", sum := "2d42d6198685cd845b2126321f935a4c3f55bc6ed0e9bea13d7f3fe628618e62", func := "finesse/finesselaw16.ClaimWrong", spec := "claimWrong", unfollowed := true, recurses := true, named := ["math/bits.deBruijn64tab"], plainKeys := false, apart := false, laid := [("math/bits.deBruijn64tab", laid_math_bits_deBruijn64tab)] }
def ClaimWrongSaid : Prop := claimWrongRow.holds Tryd.pinned (OpenSpec.ofChange claimWrongSpec)

/-- ITS FALSE NEIGHBOUR: 'it returns false'. Refute it at one input. -/
def claimWrongWrong : ChangeSpec := { name := "claimWrong", fn := fun _ => fun
  | [d1, d2, d3, d4, d5] => { results := [.lit (.bool false)], args := [d1, d2, d3, d4, d5] }
  | _ => none }
def ClaimWrongWrongFalsely : Prop := claimWrongRow.holds Tryd.pinned (OpenSpec.ofChange claimWrongWrong)

/- THE SECOND FORM. 'bulk': how many values and letters a reading holds, each counted each time it is reached (what is shared counts as often as it is met; a slice's spare places count too). A statement '..UptoSaid' is the law's where the arguments, and the package variables that the reading takes, are together of bulk at most 1048576: NARROWER than '..Said'. Prove '..Said' where nothing that the law and all that it calls make is longer than what came in: it says more and counts as full. Else prove '..UptoSaid'. A law counts once. -/
mutual
def uptoBulk {H : Type} : DataW H → Nat
  | .lit (.string bytes) => bytes.length + 1
  | .lit _ => 1
  | .nil => 1
  | .ptr d => uptoBulk d + 1
  | .slice elems spare => uptoBulkAll elems + uptoBulkAll spare + 1
  | .agg parts => uptoBulkAll parts + 1
  | .iface _ d => uptoBulk d + 1
  | .map entries => uptoBulkEntries entries + 1
  | .held _ => 1
def uptoBulkAll {H : Type} : List (DataW H) → Nat
  | [] => 0
  | d :: r => uptoBulk d + uptoBulkAll r
def uptoBulkEntries {H : Type} : List (Lit × DataW H) → Nat
  | [] => 0
  | x :: r => uptoBulkEntry x + uptoBulkEntries r
def uptoBulkEntry {H : Type} : Lit × DataW H → Nat
  | (.string bytes, d) => bytes.length + uptoBulk d + 1
  | (_, d) => uptoBulk d + 1
 end
def uptoSmall : (H : Type) → List (DataW H) → Bool := fun _ ds => decide (uptoBulkAll ds ≤ 1048576)
def OpenSpec.upto (s : _root_.Go.ChangeSpec) : _root_.Go.OpenSpec := { _root_.Go.OpenSpec.ofChange s with cond := some uptoSmall }

/-- 'finesselaw16.ClaimSmall', WHERE WHAT IT READS IS OF BULK AT MOST 1048576: true; the input reads as it did. -/
def claimSmallUptoRow : OpenClaim := { program := "ytnbillhodbcfbaadoor", sum := "2d42d6198685cd845b2126321f935a4c3f55bc6ed0e9bea13d7f3fe628618e62", func := "finesse/finesselaw16.ClaimSmall", spec := "claimSmall", unfollowed := true, recurses := true, named := ["math/bits.deBruijn64tab"], plainKeys := false, apart := false, laid := [("math/bits.deBruijn64tab", laid_math_bits_deBruijn64tab)], narrowed := true }
def ClaimSmallUptoSaid : Prop := claimSmallUptoRow.holds Tryd.pinned (OpenSpec.upto claimSmallSpec)

/-- 'finesselaw16.ClaimSafe', WHERE WHAT IT READS IS OF BULK AT MOST 1048576: true; the input reads as it did. -/
def claimSafeUptoRow : OpenClaim := { program := "ytnbillhodbcfbaadoor", sum := "2d42d6198685cd845b2126321f935a4c3f55bc6ed0e9bea13d7f3fe628618e62", func := "finesse/finesselaw16.ClaimSafe", spec := "claimSafe", unfollowed := true, recurses := true, named := ["math/bits.deBruijn64tab"], plainKeys := false, apart := false, laid := [("math/bits.deBruijn64tab", laid_math_bits_deBruijn64tab)], narrowed := true }
def ClaimSafeUptoSaid : Prop := claimSafeUptoRow.holds Tryd.pinned (OpenSpec.upto claimSafeSpec)

/-- 'finesselaw16.ClaimTells', WHERE WHAT IT READS IS OF BULK AT MOST 1048576: true; the input reads as it did. -/
def claimTellsUptoRow : OpenClaim := { program := "ytnbillhodbcfbaadoor", sum := "2d42d6198685cd845b2126321f935a4c3f55bc6ed0e9bea13d7f3fe628618e62", func := "finesse/finesselaw16.ClaimTells", spec := "claimTells", unfollowed := true, recurses := true, named := ["math/bits.deBruijn64tab"], plainKeys := false, apart := false, laid := [("math/bits.deBruijn64tab", laid_math_bits_deBruijn64tab)], narrowed := true }
def ClaimTellsUptoSaid : Prop := claimTellsUptoRow.holds Tryd.pinned (OpenSpec.upto claimTellsSpec)

/-- 'finesselaw16.ClaimAwards', WHERE WHAT IT READS IS OF BULK AT MOST 1048576: true; the input reads as it did. -/
def claimAwardsUptoRow : OpenClaim := { program := "ytnbillhodbcfbaadoor", sum := "2d42d6198685cd845b2126321f935a4c3f55bc6ed0e9bea13d7f3fe628618e62", func := "finesse/finesselaw16.ClaimAwards", spec := "claimAwards", unfollowed := true, recurses := true, named := ["math/bits.deBruijn64tab"], plainKeys := false, apart := false, laid := [("math/bits.deBruijn64tab", laid_math_bits_deBruijn64tab)], narrowed := true }
def ClaimAwardsUptoSaid : Prop := claimAwardsUptoRow.holds Tryd.pinned (OpenSpec.upto claimAwardsSpec)

/-- 'finesselaw16.ClaimSides', WHERE WHAT IT READS IS OF BULK AT MOST 1048576: true; the input reads as it did. -/
def claimSidesUptoRow : OpenClaim := { program := "ytnbillhodbcfbaadoor", sum := "2d42d6198685cd845b2126321f935a4c3f55bc6ed0e9bea13d7f3fe628618e62", func := "finesse/finesselaw16.ClaimSides", spec := "claimSides", unfollowed := true, recurses := true, named := ["math/bits.deBruijn64tab"], plainKeys := false, apart := false, laid := [("math/bits.deBruijn64tab", laid_math_bits_deBruijn64tab)], narrowed := true }
def ClaimSidesUptoSaid : Prop := claimSidesUptoRow.holds Tryd.pinned (OpenSpec.upto claimSidesSpec)

/-- 'finesselaw16.ClaimLonger', WHERE WHAT IT READS IS OF BULK AT MOST 1048576: true; the input reads as it did. -/
def claimLongerUptoRow : OpenClaim := { program := "ytnbillhodbcfbaadoor", sum := "2d42d6198685cd845b2126321f935a4c3f55bc6ed0e9bea13d7f3fe628618e62", func := "finesse/finesselaw16.ClaimLonger", spec := "claimLonger", unfollowed := true, recurses := true, named := ["math/bits.deBruijn64tab"], plainKeys := false, apart := false, laid := [("math/bits.deBruijn64tab", laid_math_bits_deBruijn64tab)], narrowed := true }
def ClaimLongerUptoSaid : Prop := claimLongerUptoRow.holds Tryd.pinned (OpenSpec.upto claimLongerSpec)

/-- 'finesselaw16.ClaimWrong', WHERE WHAT IT READS IS OF BULK AT MOST 1048576: true; the input reads as it did. -/
def claimWrongUptoRow : OpenClaim := { program := "ytnbillhodbcfbaadoor", sum := "2d42d6198685cd845b2126321f935a4c3f55bc6ed0e9bea13d7f3fe628618e62", func := "finesse/finesselaw16.ClaimWrong", spec := "claimWrong", unfollowed := true, recurses := true, named := ["math/bits.deBruijn64tab"], plainKeys := false, apart := false, laid := [("math/bits.deBruijn64tab", laid_math_bits_deBruijn64tab)], narrowed := true }
def ClaimWrongUptoSaid : Prop := claimWrongUptoRow.holds Tryd.pinned (OpenSpec.upto claimWrongSpec)

end Rows
end Go.Proofs.YtnbillhodbcfbaaDoor
