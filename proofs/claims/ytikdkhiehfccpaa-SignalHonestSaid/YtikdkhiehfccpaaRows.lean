/-
  No cell of these rows narrows 'for every input' (looked for: loops, veiled, ifaces, maps, wideKeys, modest, calm, conditions, laid).
  DERIVED. THE GIVEN ROWS OF THIS SEAT. 7 by the template 'for every input the law returns true; each argument reads behind the call as it read before'; 0 by the template 'total and deterministic' (their statements: YtikdkhiehfccpaaTotals.lean).
  GIVEN WITH THE SEED: the statements are not yours to turn. If you find one false, say at which input.
  Laid BY PROGRAM, IN A SANDBOX (cutbox-rows.mjs): the forced cells as the released guide's own fill.sh prints them over the translation cb1c8497da0bddf6… (all of the seat's roots in one cut). By AI agents, Wed Nov 11 2026. No macro, syntax, notation, axiom, sorry.
-/
import Derived.Test.YtikdkhiehfccpaaChecked
import GoSem.Claim
import GoSem.ClaimJoined
import GoSem.ClaimMapViews
import Derived.JoinedTies
import Derived.KernelRfl
namespace Go.Proofs.Ytikdkhiehfccpaa
/- THE CELL 'sum', in the pinned program and in every row, IS THE sha256 OF THE DUMP (.gsa) THAT YtikdkhiehfccpaaProg.lean LOADS. Nothing in Lean hashes anything: it is a label: what it is worth is what the hold of that sum in a sandbox is worth. -/
noncomputable def Try.pinned : Pinned := { name := "ytikdkhiehfccpaa", sum := "cb1c8497da0bddf6652f953e93d8517b513fb4612485c79a45e266a419d0f69a", checked := Try.checked }
namespace Rows
def none {H : Type} : Left H := { results := [], args := [] }

/-- 'finesselaw41.SignalChecks': WHATEVER THE INPUT: true; the input reads as it did. -/
def signalChecksSpec : ChangeSpec := { name := "signalChecks", fn := fun _ => fun
  | [d1, d2, d3, d4] => { results := [.lit (.bool true)], args := [d1, d2, d3, d4] }
  | _ => none }
def signalChecksRow : OpenClaim := { program := "ytikdkhiehfccpaa", sum := "cb1c8497da0bddf6652f953e93d8517b513fb4612485c79a45e266a419d0f69a", func := "finesse/finesselaw41.SignalChecks", spec := "signalChecks", unfollowed := true, recurses := true, apart := false }
def SignalChecksSaid : Prop := signalChecksRow.holds Try.pinned (OpenSpec.ofChange signalChecksSpec)

/-- ITS FALSE NEIGHBOUR: 'it returns false'. Refute it at one input. -/
def signalChecksWrong : ChangeSpec := { name := "signalChecks", fn := fun _ => fun
  | [d1, d2, d3, d4] => { results := [.lit (.bool false)], args := [d1, d2, d3, d4] }
  | _ => none }
def SignalChecksWrongFalsely : Prop := signalChecksRow.holds Try.pinned (OpenSpec.ofChange signalChecksWrong)

/-- 'finesselaw41.SignalHonest': WHATEVER THE INPUT: true; the input reads as it did. -/
def signalHonestSpec : ChangeSpec := { name := "signalHonest", fn := fun _ => fun
  | [d1, d2, d3, d4, d5, d6] => { results := [.lit (.bool true)], args := [d1, d2, d3, d4, d5, d6] }
  | _ => none }
def signalHonestRow : OpenClaim := { program := "ytikdkhiehfccpaa", sum := "cb1c8497da0bddf6652f953e93d8517b513fb4612485c79a45e266a419d0f69a", func := "finesse/finesselaw41.SignalHonest", spec := "signalHonest", unfollowed := true, recurses := true, apart := false }
def SignalHonestSaid : Prop := signalHonestRow.holds Try.pinned (OpenSpec.ofChange signalHonestSpec)

/-- ITS FALSE NEIGHBOUR: 'it returns false'. Refute it at one input. -/
def signalHonestWrong : ChangeSpec := { name := "signalHonest", fn := fun _ => fun
  | [d1, d2, d3, d4, d5, d6] => { results := [.lit (.bool false)], args := [d1, d2, d3, d4, d5, d6] }
  | _ => none }
def SignalHonestWrongFalsely : Prop := signalHonestRow.holds Try.pinned (OpenSpec.ofChange signalHonestWrong)

/-- 'finesselaw41.SignalOutside': WHATEVER THE INPUT: true; the input reads as it did. -/
def signalOutsideSpec : ChangeSpec := { name := "signalOutside", fn := fun _ => fun
  | [d1, d2, d3, d4, d5, d6] => { results := [.lit (.bool true)], args := [d1, d2, d3, d4, d5, d6] }
  | _ => none }
def signalOutsideRow : OpenClaim := { program := "ytikdkhiehfccpaa", sum := "cb1c8497da0bddf6652f953e93d8517b513fb4612485c79a45e266a419d0f69a", func := "finesse/finesselaw41.SignalOutside", spec := "signalOutside", unfollowed := true, recurses := true, apart := false }
def SignalOutsideSaid : Prop := signalOutsideRow.holds Try.pinned (OpenSpec.ofChange signalOutsideSpec)

/-- ITS FALSE NEIGHBOUR: 'it returns false'. Refute it at one input. -/
def signalOutsideWrong : ChangeSpec := { name := "signalOutside", fn := fun _ => fun
  | [d1, d2, d3, d4, d5, d6] => { results := [.lit (.bool false)], args := [d1, d2, d3, d4, d5, d6] }
  | _ => none }
def SignalOutsideWrongFalsely : Prop := signalOutsideRow.holds Try.pinned (OpenSpec.ofChange signalOutsideWrong)

/-- 'finesselaw41.SignalLast': WHATEVER THE INPUT: true; the input reads as it did. -/
def signalLastSpec : ChangeSpec := { name := "signalLast", fn := fun _ => fun
  | [d1, d2, d3, d4, d5] => { results := [.lit (.bool true)], args := [d1, d2, d3, d4, d5] }
  | _ => none }
def signalLastRow : OpenClaim := { program := "ytikdkhiehfccpaa", sum := "cb1c8497da0bddf6652f953e93d8517b513fb4612485c79a45e266a419d0f69a", func := "finesse/finesselaw41.SignalLast", spec := "signalLast", unfollowed := true, recurses := true, apart := false }
def SignalLastSaid : Prop := signalLastRow.holds Try.pinned (OpenSpec.ofChange signalLastSpec)

/-- ITS FALSE NEIGHBOUR: 'it returns false'. Refute it at one input. -/
def signalLastWrong : ChangeSpec := { name := "signalLast", fn := fun _ => fun
  | [d1, d2, d3, d4, d5] => { results := [.lit (.bool false)], args := [d1, d2, d3, d4, d5] }
  | _ => none }
def SignalLastWrongFalsely : Prop := signalLastRow.holds Try.pinned (OpenSpec.ofChange signalLastWrong)

/-- 'finesselaw41.SignalTells': WHATEVER THE INPUT: true; the input reads as it did. -/
def signalTellsSpec : ChangeSpec := { name := "signalTells", fn := fun _ => fun
  | [d1, d2, d3, d4, d5, d6] => { results := [.lit (.bool true)], args := [d1, d2, d3, d4, d5, d6] }
  | _ => none }
def signalTellsRow : OpenClaim := { program := "ytikdkhiehfccpaa", sum := "cb1c8497da0bddf6652f953e93d8517b513fb4612485c79a45e266a419d0f69a", func := "finesse/finesselaw41.SignalTells", spec := "signalTells", unfollowed := true, recurses := true, apart := false }
def SignalTellsSaid : Prop := signalTellsRow.holds Try.pinned (OpenSpec.ofChange signalTellsSpec)

/-- ITS FALSE NEIGHBOUR: 'it returns false'. Refute it at one input. -/
def signalTellsWrong : ChangeSpec := { name := "signalTells", fn := fun _ => fun
  | [d1, d2, d3, d4, d5, d6] => { results := [.lit (.bool false)], args := [d1, d2, d3, d4, d5, d6] }
  | _ => none }
def SignalTellsWrongFalsely : Prop := signalTellsRow.holds Try.pinned (OpenSpec.ofChange signalTellsWrong)

/-- 'finesselaw41.SignalCounts': WHATEVER THE INPUT: true; the input reads as it did. -/
def signalCountsSpec : ChangeSpec := { name := "signalCounts", fn := fun _ => fun
  | [d1, d2, d3, d4, d5] => { results := [.lit (.bool true)], args := [d1, d2, d3, d4, d5] }
  | _ => none }
def signalCountsRow : OpenClaim := { program := "ytikdkhiehfccpaa", sum := "cb1c8497da0bddf6652f953e93d8517b513fb4612485c79a45e266a419d0f69a", func := "finesse/finesselaw41.SignalCounts", spec := "signalCounts", unfollowed := true, recurses := true, apart := false }
def SignalCountsSaid : Prop := signalCountsRow.holds Try.pinned (OpenSpec.ofChange signalCountsSpec)

/-- ITS FALSE NEIGHBOUR: 'it returns false'. Refute it at one input. -/
def signalCountsWrong : ChangeSpec := { name := "signalCounts", fn := fun _ => fun
  | [d1, d2, d3, d4, d5] => { results := [.lit (.bool false)], args := [d1, d2, d3, d4, d5] }
  | _ => none }
def SignalCountsWrongFalsely : Prop := signalCountsRow.holds Try.pinned (OpenSpec.ofChange signalCountsWrong)

/-- 'finesselaw41.SignalWrong': WHATEVER THE INPUT: true; the input reads as it did. -/
def signalWrongSpec : ChangeSpec := { name := "signalWrong", fn := fun _ => fun
  | [d1, d2, d3] => { results := [.lit (.bool true)], args := [d1, d2, d3] }
  | _ => none }
def signalWrongRow : OpenClaim := { program := "ytikdkhiehfccpaa", sum := "cb1c8497da0bddf6652f953e93d8517b513fb4612485c79a45e266a419d0f69a", func := "finesse/finesselaw41.SignalWrong", spec := "signalWrong", unfollowed := true, recurses := true, apart := false }
def SignalWrongSaid : Prop := signalWrongRow.holds Try.pinned (OpenSpec.ofChange signalWrongSpec)

/-- ITS FALSE NEIGHBOUR: 'it returns false'. Refute it at one input. -/
def signalWrongWrong : ChangeSpec := { name := "signalWrong", fn := fun _ => fun
  | [d1, d2, d3] => { results := [.lit (.bool false)], args := [d1, d2, d3] }
  | _ => none }
def SignalWrongWrongFalsely : Prop := signalWrongRow.holds Try.pinned (OpenSpec.ofChange signalWrongWrong)

/- THE SECOND FORM. 'bulk': how many values and letters a reading holds, each counted each time it is reached (what is shared counts as often as it is met; a slice's spare places count too). A statement '..UptoSaid' is the law's where the arguments, and the package variables that the reading takes, are together of bulk at most 1048576: NARROWER than '..Said'. Prove '..Said' where nothing that the law and all that it calls make is longer than what came in: it says more and counts as full. Else prove '..UptoSaid'. A law counts once. -/
mutual
def uptoBulk {H : Type} : DataW H → Nat
  | .lit (.string bytes) => bytes.length + 1
  | .lit _ => 1
  | .nil => 1
  | .ptr d => uptoBulk d + 1
  | .slice elems spare => uptoBulkAll elems + uptoBulkAll spare + 1
  | .agg parts => uptoBulkAll parts + 1
  | .iface _ d => uptoBulk d + 1
  | .map entries => uptoBulkEntries entries + 1
  | .held _ => 1
def uptoBulkAll {H : Type} : List (DataW H) → Nat
  | [] => 0
  | d :: r => uptoBulk d + uptoBulkAll r
def uptoBulkEntries {H : Type} : List (Lit × DataW H) → Nat
  | [] => 0
  | x :: r => uptoBulkEntry x + uptoBulkEntries r
def uptoBulkEntry {H : Type} : Lit × DataW H → Nat
  | (.string bytes, d) => bytes.length + uptoBulk d + 1
  | (_, d) => uptoBulk d + 1
 end
def uptoSmall : (H : Type) → List (DataW H) → Bool := fun _ ds => decide (uptoBulkAll ds ≤ 1048576)
def OpenSpec.upto (s : _root_.Go.ChangeSpec) : _root_.Go.OpenSpec := { _root_.Go.OpenSpec.ofChange s with cond := some uptoSmall }

/-- 'finesselaw41.SignalChecks', WHERE WHAT IT READS IS OF BULK AT MOST 1048576: true; the input reads as it did. -/
def signalChecksUptoRow : OpenClaim := { program := "ytikdkhiehfccpaa", sum := "cb1c8497da0bddf6652f953e93d8517b513fb4612485c79a45e266a419d0f69a", func := "finesse/finesselaw41.SignalChecks", spec := "signalChecks", unfollowed := true, recurses := true, apart := false, narrowed := true }
def SignalChecksUptoSaid : Prop := signalChecksUptoRow.holds Try.pinned (OpenSpec.upto signalChecksSpec)

/-- 'finesselaw41.SignalHonest', WHERE WHAT IT READS IS OF BULK AT MOST 1048576: true; the input reads as it did. -/
def signalHonestUptoRow : OpenClaim := { program := "ytikdkhiehfccpaa", sum := "cb1c8497da0bddf6652f953e93d8517b513fb4612485c79a45e266a419d0f69a", func := "finesse/finesselaw41.SignalHonest", spec := "signalHonest", unfollowed := true, recurses := true, apart := false, narrowed := true }
def SignalHonestUptoSaid : Prop := signalHonestUptoRow.holds Try.pinned (OpenSpec.upto signalHonestSpec)

/-- 'finesselaw41.SignalOutside', WHERE WHAT IT READS IS OF BULK AT MOST 1048576: true; the input reads as it did. -/
def signalOutsideUptoRow : OpenClaim := { program := "ytikdkhiehfccpaa", sum := "cb1c8497da0bddf6652f953e93d8517b513fb4612485c79a45e266a419d0f69a", func := "finesse/finesselaw41.SignalOutside", spec := "signalOutside", unfollowed := true, recurses := true, apart := false, narrowed := true }
def SignalOutsideUptoSaid : Prop := signalOutsideUptoRow.holds Try.pinned (OpenSpec.upto signalOutsideSpec)

/-- 'finesselaw41.SignalLast', WHERE WHAT IT READS IS OF BULK AT MOST 1048576: true; the input reads as it did. -/
def signalLastUptoRow : OpenClaim := { program := "ytikdkhiehfccpaa", sum := "cb1c8497da0bddf6652f953e93d8517b513fb4612485c79a45e266a419d0f69a", func := "finesse/finesselaw41.SignalLast", spec := "signalLast", unfollowed := true, recurses := true, apart := false, narrowed := true }
def SignalLastUptoSaid : Prop := signalLastUptoRow.holds Try.pinned (OpenSpec.upto signalLastSpec)

/-- 'finesselaw41.SignalTells', WHERE WHAT IT READS IS OF BULK AT MOST 1048576: true; the input reads as it did. -/
def signalTellsUptoRow : OpenClaim := { program := "ytikdkhiehfccpaa", sum := "cb1c8497da0bddf6652f953e93d8517b513fb4612485c79a45e266a419d0f69a", func := "finesse/finesselaw41.SignalTells", spec := "signalTells", unfollowed := true, recurses := true, apart := false, narrowed := true }
def SignalTellsUptoSaid : Prop := signalTellsUptoRow.holds Try.pinned (OpenSpec.upto signalTellsSpec)

/-- 'finesselaw41.SignalCounts', WHERE WHAT IT READS IS OF BULK AT MOST 1048576: true; the input reads as it did. -/
def signalCountsUptoRow : OpenClaim := { program := "ytikdkhiehfccpaa", sum := "cb1c8497da0bddf6652f953e93d8517b513fb4612485c79a45e266a419d0f69a", func := "finesse/finesselaw41.SignalCounts", spec := "signalCounts", unfollowed := true, recurses := true, apart := false, narrowed := true }
def SignalCountsUptoSaid : Prop := signalCountsUptoRow.holds Try.pinned (OpenSpec.upto signalCountsSpec)

/-- 'finesselaw41.SignalWrong', WHERE WHAT IT READS IS OF BULK AT MOST 1048576: true; the input reads as it did. -/
def signalWrongUptoRow : OpenClaim := { program := "ytikdkhiehfccpaa", sum := "cb1c8497da0bddf6652f953e93d8517b513fb4612485c79a45e266a419d0f69a", func := "finesse/finesselaw41.SignalWrong", spec := "signalWrong", unfollowed := true, recurses := true, apart := false, narrowed := true }
def SignalWrongUptoSaid : Prop := signalWrongUptoRow.holds Try.pinned (OpenSpec.upto signalWrongSpec)

end Rows
end Go.Proofs.Ytikdkhiehfccpaa
