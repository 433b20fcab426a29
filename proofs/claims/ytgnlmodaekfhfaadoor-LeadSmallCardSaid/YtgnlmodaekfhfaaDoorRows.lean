/-
  NARROWER THAN 'FOR EVERY INPUT', by the rows' own cells (each row's printed sentence says how): LeadAccepted: laid · LeadWrong: laid · LeadKeeps: laid · LeadChoices: laid · LeadDemands: laid · LeadTells: laid · LeadSmall: laid · LeadPenalty: laid.
  DERIVED. THE GIVEN ROWS OF THIS SEAT. 8 by the template 'for every input the law returns true; each argument reads behind the call as it read before'; 0 by the template 'total and deterministic' (their statements: YtgnlmodaekfhfaaDoorTotals.lean).
  GIVEN WITH THE SEED: the statements are not yours to turn. If you find one false, say at which input.
  Laid BY PROGRAM, IN A SANDBOX (cutbox-rows.mjs): the forced cells as the released guide's own fill.sh prints them over the translation 90568f4826079678… (all of the seat's roots in one cut). By AI agents, Wed Nov 11 2026. No macro, syntax, notation, axiom, sorry.
-/
import Derived.Test.YtgnlmodaekfhfaaDoorChecked
import GoSem.Claim
import GoSem.ClaimJoined
import GoSem.ClaimMapViews
import Derived.JoinedTies
import Derived.KernelRfl
namespace Go.Proofs.YtgnlmodaekfhfaaDoor
/- THE CELL 'sum', in the pinned program and in every row, IS THE sha256 OF THE DUMP (.gsa) THAT YtgnlmodaekfhfaaDoorProg.lean LOADS. Nothing in Lean hashes anything: it is a label: what it is worth is what the hold of that sum in a sandbox is worth. -/
noncomputable def Tryd.pinned : Pinned := { name := "ytgnlmodaekfhfaadoor", sum := "90568f4826079678747ffa8614bcc528205babe8a8eae816edbd1ce3b2288547", checked := Tryd.checked }
namespace Rows
def none {H : Type} : Left H := { results := [], args := [] }

/- WHAT THE LISTED PACKAGE-LEVEL VARIABLES READ AS WHEN THE CALL BEGINS. Each datum BY PROGRAM (the guide's laid-datum.mjs) off the statement by which the dump's own 'gosem.cut.vars' lays the variable. In a bare row this is a premise. The card (YtgnlmodaekfhfaaDoorCards.lean) ties it to the program's text. -/
def laid_math_bits_deBruijn64tab {H : Type} : DataW H := .agg [.lit (.int .u8 0), .lit (.int .u8 1), .lit (.int .u8 56), .lit (.int .u8 2), .lit (.int .u8 57), .lit (.int .u8 49), .lit (.int .u8 28), .lit (.int .u8 3), .lit (.int .u8 61), .lit (.int .u8 58), .lit (.int .u8 42), .lit (.int .u8 50), .lit (.int .u8 38), .lit (.int .u8 29), .lit (.int .u8 17), .lit (.int .u8 4), .lit (.int .u8 62), .lit (.int .u8 47), .lit (.int .u8 59), .lit (.int .u8 36), .lit (.int .u8 45), .lit (.int .u8 43), .lit (.int .u8 51), .lit (.int .u8 22), .lit (.int .u8 53), .lit (.int .u8 39), .lit (.int .u8 33), .lit (.int .u8 30), .lit (.int .u8 24), .lit (.int .u8 18), .lit (.int .u8 12), .lit (.int .u8 5), .lit (.int .u8 63), .lit (.int .u8 55), .lit (.int .u8 48), .lit (.int .u8 27), .lit (.int .u8 60), .lit (.int .u8 41), .lit (.int .u8 37), .lit (.int .u8 16), .lit (.int .u8 46), .lit (.int .u8 35), .lit (.int .u8 44), .lit (.int .u8 21), .lit (.int .u8 52), .lit (.int .u8 32), .lit (.int .u8 23), .lit (.int .u8 11), .lit (.int .u8 54), .lit (.int .u8 26), .lit (.int .u8 40), .lit (.int .u8 15), .lit (.int .u8 34), .lit (.int .u8 20), .lit (.int .u8 31), .lit (.int .u8 10), .lit (.int .u8 25), .lit (.int .u8 14), .lit (.int .u8 19), .lit (.int .u8 9), .lit (.int .u8 13), .lit (.int .u8 8), .lit (.int .u8 7), .lit (.int .u8 6)]

/-- 'finesselaw14.LeadAccepted': WHATEVER THE INPUT: true; the input reads as it did. -/
def leadAcceptedSpec : ChangeSpec := { name := "leadAccepted", fn := fun _ => fun
  | [d1, d2, d3, d4] => { results := [.lit (.bool true)], args := [d1, d2, d3, d4] }
  | _ => none }
def leadAcceptedRow : OpenClaim := { program := "ytgnlmodaekfhfaadoor", sum := "90568f4826079678747ffa8614bcc528205babe8a8eae816edbd1ce3b2288547", func := "finesse/finesselaw14.LeadAccepted", spec := "leadAccepted", unfollowed := true, recurses := true, named := ["math/bits.deBruijn64tab"], apart := false, laid := [("math/bits.deBruijn64tab", laid_math_bits_deBruijn64tab)] }
def LeadAcceptedSaid : Prop := leadAcceptedRow.holds Tryd.pinned (OpenSpec.ofChange leadAcceptedSpec)

/-- ITS FALSE NEIGHBOUR: 'it returns false'. Refute it at one input. -/
def leadAcceptedWrong : ChangeSpec := { name := "leadAccepted", fn := fun _ => fun
  | [d1, d2, d3, d4] => { results := [.lit (.bool false)], args := [d1, d2, d3, d4] }
  | _ => none }
def LeadAcceptedWrongFalsely : Prop := leadAcceptedRow.holds Tryd.pinned (OpenSpec.ofChange leadAcceptedWrong)

/-- 'finesselaw14.LeadWrong': WHATEVER THE INPUT: true; the input reads as it did. -/
def leadWrongSpec : ChangeSpec := { name := "leadWrong", fn := fun _ => fun
  | [d1, d2, d3] => { results := [.lit (.bool true)], args := [d1, d2, d3] }
  | _ => none }
def leadWrongRow : OpenClaim := { program := "ytgnlmodaekfhfaadoor", sum := "90568f4826079678747ffa8614bcc528205babe8a8eae816edbd1ce3b2288547", func := "finesse/finesselaw14.LeadWrong", spec := "leadWrong", unfollowed := true, recurses := true, named := ["math/bits.deBruijn64tab"], apart := false, laid := [("math/bits.deBruijn64tab", laid_math_bits_deBruijn64tab)] }
def LeadWrongSaid : Prop := leadWrongRow.holds Tryd.pinned (OpenSpec.ofChange leadWrongSpec)

/-- ITS FALSE NEIGHBOUR: 'it returns false'. Refute it at one input. -/
def leadWrongWrong : ChangeSpec := { name := "leadWrong", fn := fun _ => fun
  | [d1, d2, d3] => { results := [.lit (.bool false)], args := [d1, d2, d3] }
  | _ => none }
def LeadWrongWrongFalsely : Prop := leadWrongRow.holds Tryd.pinned (OpenSpec.ofChange leadWrongWrong)

/-- 'finesselaw14.LeadKeeps': WHATEVER THE INPUT: true; the input reads as it did. -/
def leadKeepsSpec : ChangeSpec := { name := "leadKeeps", fn := fun _ => fun
  | [d1, d2] => { results := [.lit (.bool true)], args := [d1, d2] }
  | _ => none }
def leadKeepsRow : OpenClaim := { program := "ytgnlmodaekfhfaadoor", sum := "90568f4826079678747ffa8614bcc528205babe8a8eae816edbd1ce3b2288547", func := "finesse/finesselaw14.LeadKeeps", spec := "leadKeeps", unfollowed := true, recurses := true, named := ["math/bits.deBruijn64tab"], apart := false, laid := [("math/bits.deBruijn64tab", laid_math_bits_deBruijn64tab)] }
def LeadKeepsSaid : Prop := leadKeepsRow.holds Tryd.pinned (OpenSpec.ofChange leadKeepsSpec)

/-- ITS FALSE NEIGHBOUR: 'it returns false'. Refute it at one input. -/
def leadKeepsWrong : ChangeSpec := { name := "leadKeeps", fn := fun _ => fun
  | [d1, d2] => { results := [.lit (.bool false)], args := [d1, d2] }
  | _ => none }
def LeadKeepsWrongFalsely : Prop := leadKeepsRow.holds Tryd.pinned (OpenSpec.ofChange leadKeepsWrong)

/-- 'finesselaw14.LeadChoices': WHATEVER THE INPUT: true; the input reads as it did. -/
def leadChoicesSpec : ChangeSpec := { name := "leadChoices", fn := fun _ => fun
  | [d1, d2, d3, d4, d5] => { results := [.lit (.bool true)], args := [d1, d2, d3, d4, d5] }
  | _ => none }
def leadChoicesRow : OpenClaim := { program := "ytgnlmodaekfhfaadoor", sum := "90568f4826079678747ffa8614bcc528205babe8a8eae816edbd1ce3b2288547", func := "finesse/finesselaw14.LeadChoices", spec := "leadChoices", unfollowed := true, recurses := true, named := ["math/bits.deBruijn64tab"], apart := false, laid := [("math/bits.deBruijn64tab", laid_math_bits_deBruijn64tab)] }
def LeadChoicesSaid : Prop := leadChoicesRow.holds Tryd.pinned (OpenSpec.ofChange leadChoicesSpec)

/-- ITS FALSE NEIGHBOUR: 'it returns false'. Refute it at one input. -/
def leadChoicesWrong : ChangeSpec := { name := "leadChoices", fn := fun _ => fun
  | [d1, d2, d3, d4, d5] => { results := [.lit (.bool false)], args := [d1, d2, d3, d4, d5] }
  | _ => none }
def LeadChoicesWrongFalsely : Prop := leadChoicesRow.holds Tryd.pinned (OpenSpec.ofChange leadChoicesWrong)

/-- 'finesselaw14.LeadDemands': WHATEVER THE INPUT: true; the input reads as it did. -/
def leadDemandsSpec : ChangeSpec := { name := "leadDemands", fn := fun _ => fun
  | [d1, d2, d3, d4] => { results := [.lit (.bool true)], args := [d1, d2, d3, d4] }
  | _ => none }
def leadDemandsRow : OpenClaim := { program := "ytgnlmodaekfhfaadoor", sum := "90568f4826079678747ffa8614bcc528205babe8a8eae816edbd1ce3b2288547", func := "finesse/finesselaw14.LeadDemands", spec := "leadDemands", unfollowed := true, recurses := true, named := ["math/bits.deBruijn64tab"], apart := false, laid := [("math/bits.deBruijn64tab", laid_math_bits_deBruijn64tab)] }
def LeadDemandsSaid : Prop := leadDemandsRow.holds Tryd.pinned (OpenSpec.ofChange leadDemandsSpec)

/-- ITS FALSE NEIGHBOUR: 'it returns false'. Refute it at one input. -/
def leadDemandsWrong : ChangeSpec := { name := "leadDemands", fn := fun _ => fun
  | [d1, d2, d3, d4] => { results := [.lit (.bool false)], args := [d1, d2, d3, d4] }
  | _ => none }
def LeadDemandsWrongFalsely : Prop := leadDemandsRow.holds Tryd.pinned (OpenSpec.ofChange leadDemandsWrong)

/-- 'finesselaw14.LeadTells': WHATEVER THE INPUT: true; the input reads as it did. -/
def leadTellsSpec : ChangeSpec := { name := "leadTells", fn := fun _ => fun
  | [d1, d2, d3, d4] => { results := [.lit (.bool true)], args := [d1, d2, d3, d4] }
  | _ => none }
def leadTellsRow : OpenClaim := { program := "ytgnlmodaekfhfaadoor", sum := "90568f4826079678747ffa8614bcc528205babe8a8eae816edbd1ce3b2288547", func := "finesse/finesselaw14.LeadTells", spec := "leadTells", unfollowed := true, recurses := true, named := ["math/bits.deBruijn64tab"], apart := false, laid := [("math/bits.deBruijn64tab", laid_math_bits_deBruijn64tab)] }
def LeadTellsSaid : Prop := leadTellsRow.holds Tryd.pinned (OpenSpec.ofChange leadTellsSpec)

/-- ITS FALSE NEIGHBOUR: 'it returns false'. Refute it at one input. -/
def leadTellsWrong : ChangeSpec := { name := "leadTells", fn := fun _ => fun
  | [d1, d2, d3, d4] => { results := [.lit (.bool false)], args := [d1, d2, d3, d4] }
  | _ => none }
def LeadTellsWrongFalsely : Prop := leadTellsRow.holds Tryd.pinned (OpenSpec.ofChange leadTellsWrong)

/-- 'finesselaw14.LeadSmall': WHATEVER THE INPUT: true; the input reads as it did. -/
def leadSmallSpec : ChangeSpec := { name := "leadSmall", fn := fun _ => fun
  | [] => { results := [.lit (.bool true)], args := [] }
  | _ => none }
def leadSmallRow : OpenClaim := { program := "ytgnlmodaekfhfaadoor", sum := "90568f4826079678747ffa8614bcc528205babe8a8eae816edbd1ce3b2288547", func := "finesse/finesselaw14.LeadSmall", spec := "leadSmall", unfollowed := true, recurses := true, named := ["math/bits.deBruijn64tab"], apart := false, laid := [("math/bits.deBruijn64tab", laid_math_bits_deBruijn64tab)] }
def LeadSmallSaid : Prop := leadSmallRow.holds Tryd.pinned (OpenSpec.ofChange leadSmallSpec)

/-- ITS FALSE NEIGHBOUR: 'it returns false'. Refute it at one input. -/
def leadSmallWrong : ChangeSpec := { name := "leadSmall", fn := fun _ => fun
  | [] => { results := [.lit (.bool false)], args := [] }
  | _ => none }
def LeadSmallWrongFalsely : Prop := leadSmallRow.holds Tryd.pinned (OpenSpec.ofChange leadSmallWrong)

/-- 'finesselaw14.LeadPenalty': WHATEVER THE INPUT: true; the input reads as it did. -/
def leadPenaltySpec : ChangeSpec := { name := "leadPenalty", fn := fun _ => fun
  | [d1, d2] => { results := [.lit (.bool true)], args := [d1, d2] }
  | _ => none }
def leadPenaltyRow : OpenClaim := { program := "ytgnlmodaekfhfaadoor", sum := "90568f4826079678747ffa8614bcc528205babe8a8eae816edbd1ce3b2288547", func := "finesse/finesselaw14.LeadPenalty", spec := "leadPenalty", unfollowed := true, recurses := true, named := ["math/bits.deBruijn64tab"], apart := false, laid := [("math/bits.deBruijn64tab", laid_math_bits_deBruijn64tab)] }
def LeadPenaltySaid : Prop := leadPenaltyRow.holds Tryd.pinned (OpenSpec.ofChange leadPenaltySpec)

/-- ITS FALSE NEIGHBOUR: 'it returns false'. Refute it at one input. -/
def leadPenaltyWrong : ChangeSpec := { name := "leadPenalty", fn := fun _ => fun
  | [d1, d2] => { results := [.lit (.bool false)], args := [d1, d2] }
  | _ => none }
def LeadPenaltyWrongFalsely : Prop := leadPenaltyRow.holds Tryd.pinned (OpenSpec.ofChange leadPenaltyWrong)

/- THE SECOND FORM. 'bulk': how many values and letters a reading holds, each counted each time it is reached (what is shared counts as often as it is met; a slice's spare places count too). A statement '..UptoSaid' is the law's where the arguments, and the package variables that the reading takes, are together of bulk at most 1048576: NARROWER than '..Said'. Prove '..Said' where nothing that the law and all that it calls make is longer than what came in: it says more and counts as full. Else prove '..UptoSaid'. A law counts once. -/
mutual
def uptoBulk {H : Type} : DataW H → Nat
  | .lit (.string bytes) => bytes.length + 1
  | .lit _ => 1
  | .nil => 1
  | .ptr d => uptoBulk d + 1
  | .slice elems spare => uptoBulkAll elems + uptoBulkAll spare + 1
  | .agg parts => uptoBulkAll parts + 1
  | .iface _ d => uptoBulk d + 1
  | .map entries => uptoBulkEntries entries + 1
  | .held _ => 1
def uptoBulkAll {H : Type} : List (DataW H) → Nat
  | [] => 0
  | d :: r => uptoBulk d + uptoBulkAll r
def uptoBulkEntries {H : Type} : List (Lit × DataW H) → Nat
  | [] => 0
  | x :: r => uptoBulkEntry x + uptoBulkEntries r
def uptoBulkEntry {H : Type} : Lit × DataW H → Nat
  | (.string bytes, d) => bytes.length + uptoBulk d + 1
  | (_, d) => uptoBulk d + 1
 end
def uptoSmall : (H : Type) → List (DataW H) → Bool := fun _ ds => decide (uptoBulkAll ds ≤ 1048576)
def OpenSpec.upto (s : _root_.Go.ChangeSpec) : _root_.Go.OpenSpec := { _root_.Go.OpenSpec.ofChange s with cond := some uptoSmall }

/-- 'finesselaw14.LeadAccepted', WHERE WHAT IT READS IS OF BULK AT MOST 1048576: true; the input reads as it did. -/
def leadAcceptedUptoRow : OpenClaim := { program := "ytgnlmodaekfhfaadoor", sum := "90568f4826079678747ffa8614bcc528205babe8a8eae816edbd1ce3b2288547", func := "finesse/finesselaw14.LeadAccepted", spec := "leadAccepted", unfollowed := true, recurses := true, named := ["math/bits.deBruijn64tab"], apart := false, laid := [("math/bits.deBruijn64tab", laid_math_bits_deBruijn64tab)], narrowed := true }
def LeadAcceptedUptoSaid : Prop := leadAcceptedUptoRow.holds Tryd.pinned (OpenSpec.upto leadAcceptedSpec)

/-- 'finesselaw14.LeadWrong', WHERE WHAT IT READS IS OF BULK AT MOST 1048576: true; the input reads as it did. -/
def leadWrongUptoRow : OpenClaim := { program := "ytgnlmodaekfhfaadoor", sum := "90568f4826079678747ffa8614bcc528205babe8a8eae816edbd1ce3b2288547", func := "finesse/finesselaw14.LeadWrong", spec := "leadWrong", unfollowed := true, recurses := true, named := ["math/bits.deBruijn64tab"], apart := false, laid := [("math/bits.deBruijn64tab", laid_math_bits_deBruijn64tab)], narrowed := true }
def LeadWrongUptoSaid : Prop := leadWrongUptoRow.holds Tryd.pinned (OpenSpec.upto leadWrongSpec)

/-- 'finesselaw14.LeadKeeps', WHERE WHAT IT READS IS OF BULK AT MOST 1048576: true; the input reads as it did. -/
def leadKeepsUptoRow : OpenClaim := { program := "ytgnlmodaekfhfaadoor", sum := "90568f4826079678747ffa8614bcc528205babe8a8eae816edbd1ce3b2288547", func := "finesse/finesselaw14.LeadKeeps", spec := "leadKeeps", unfollowed := true, recurses := true, named := ["math/bits.deBruijn64tab"], apart := false, laid := [("math/bits.deBruijn64tab", laid_math_bits_deBruijn64tab)], narrowed := true }
def LeadKeepsUptoSaid : Prop := leadKeepsUptoRow.holds Tryd.pinned (OpenSpec.upto leadKeepsSpec)

/-- 'finesselaw14.LeadChoices', WHERE WHAT IT READS IS OF BULK AT MOST 1048576: true; the input reads as it did. -/
def leadChoicesUptoRow : OpenClaim := { program := "ytgnlmodaekfhfaadoor", sum := "90568f4826079678747ffa8614bcc528205babe8a8eae816edbd1ce3b2288547", func := "finesse/finesselaw14.LeadChoices", spec := "leadChoices", unfollowed := true, recurses := true, named := ["math/bits.deBruijn64tab"], apart := false, laid := [("math/bits.deBruijn64tab", laid_math_bits_deBruijn64tab)], narrowed := true }
def LeadChoicesUptoSaid : Prop := leadChoicesUptoRow.holds Tryd.pinned (OpenSpec.upto leadChoicesSpec)

/-- 'finesselaw14.LeadDemands', WHERE WHAT IT READS IS OF BULK AT MOST 1048576: true; the input reads as it did. -/
def leadDemandsUptoRow : OpenClaim := { program := "ytgnlmodaekfhfaadoor", sum := "90568f4826079678747ffa8614bcc528205babe8a8eae816edbd1ce3b2288547", func := "finesse/finesselaw14.LeadDemands", spec := "leadDemands", unfollowed := true, recurses := true, named := ["math/bits.deBruijn64tab"], apart := false, laid := [("math/bits.deBruijn64tab", laid_math_bits_deBruijn64tab)], narrowed := true }
def LeadDemandsUptoSaid : Prop := leadDemandsUptoRow.holds Tryd.pinned (OpenSpec.upto leadDemandsSpec)

/-- 'finesselaw14.LeadTells', WHERE WHAT IT READS IS OF BULK AT MOST 1048576: true; the input reads as it did. -/
def leadTellsUptoRow : OpenClaim := { program := "ytgnlmodaekfhfaadoor", sum := "90568f4826079678747ffa8614bcc528205babe8a8eae816edbd1ce3b2288547", func := "finesse/finesselaw14.LeadTells", spec := "leadTells", unfollowed := true, recurses := true, named := ["math/bits.deBruijn64tab"], apart := false, laid := [("math/bits.deBruijn64tab", laid_math_bits_deBruijn64tab)], narrowed := true }
def LeadTellsUptoSaid : Prop := leadTellsUptoRow.holds Tryd.pinned (OpenSpec.upto leadTellsSpec)

/-- 'finesselaw14.LeadSmall', WHERE WHAT IT READS IS OF BULK AT MOST 1048576: true; the input reads as it did. -/
def leadSmallUptoRow : OpenClaim := { program := "ytgnlmodaekfhfaadoor", sum := "90568f4826079678747ffa8614bcc528205babe8a8eae816edbd1ce3b2288547", func := "finesse/finesselaw14.LeadSmall", spec := "leadSmall", unfollowed := true, recurses := true, named := ["math/bits.deBruijn64tab"], apart := false, laid := [("math/bits.deBruijn64tab", laid_math_bits_deBruijn64tab)], narrowed := true }
def LeadSmallUptoSaid : Prop := leadSmallUptoRow.holds Tryd.pinned (OpenSpec.upto leadSmallSpec)

/-- 'finesselaw14.LeadPenalty', WHERE WHAT IT READS IS OF BULK AT MOST 1048576: true; the input reads as it did. -/
def leadPenaltyUptoRow : OpenClaim := { program := "ytgnlmodaekfhfaadoor", sum := "90568f4826079678747ffa8614bcc528205babe8a8eae816edbd1ce3b2288547", func := "finesse/finesselaw14.LeadPenalty", spec := "leadPenalty", unfollowed := true, recurses := true, named := ["math/bits.deBruijn64tab"], apart := false, laid := [("math/bits.deBruijn64tab", laid_math_bits_deBruijn64tab)], narrowed := true }
def LeadPenaltyUptoSaid : Prop := leadPenaltyUptoRow.holds Tryd.pinned (OpenSpec.upto leadPenaltySpec)

end Rows
end Go.Proofs.YtgnlmodaekfhfaaDoor
