/-
  No cell of these rows narrows 'for every input' (looked for: loops, veiled, ifaces, maps, wideKeys, modest, calm, conditions, laid).
  DERIVED. THE GIVEN ROWS OF THIS SEAT. 8 by the template 'for every input the law returns true; each argument reads behind the call as it read before'; 0 by the template 'total and deterministic' (their statements: YtdlnilebnobllaaTotals.lean).
  GIVEN WITH THE SEED: the statements are not yours to turn. If you find one false, say at which input.
  Laid BY PROGRAM, IN A SANDBOX (cutbox-rows.mjs): the forced cells as the released guide's own fill.sh prints them over the translation be1aa38a26f68baf… (all of the seat's roots in one cut). By AI agents, Wed Nov 11 2026. No macro, syntax, notation, axiom, sorry.
-/
import Derived.Test.YtdlnilebnobllaaChecked
import GoSem.Claim
import GoSem.ClaimJoined
import GoSem.ClaimMapViews
import Derived.JoinedTies
import Derived.KernelRfl
namespace Go.Proofs.Ytdlnilebnobllaa
/- THE CELL 'sum', in the pinned program and in every row, IS THE sha256 OF THE DUMP (.gsa) THAT YtdlnilebnobllaaProg.lean LOADS. Nothing in Lean hashes anything: it is a label: what it is worth is what the hold of that sum in a sandbox is worth. -/
noncomputable def Try.pinned : Pinned := { name := "ytdlnilebnobllaa", sum := "be1aa38a26f68baf899d288a98fd53410a8ca66624c2b5cb46a256b2b67d36d0", checked := Try.checked }
namespace Rows
def none {H : Type} : Left H := { results := [], args := [] }

/-- 'finesselaw13.RevokeTells': WHATEVER THE INPUT: true; the input reads as it did. -/
def revokeTellsSpec : ChangeSpec := { name := "revokeTells", fn := fun _ => fun
  | [d] => { results := [.lit (.bool true)], args := [d] }
  | _ => none }
def revokeTellsRow : OpenClaim := { program := "ytdlnilebnobllaa", sum := "be1aa38a26f68baf899d288a98fd53410a8ca66624c2b5cb46a256b2b67d36d0", func := "finesse/finesselaw13.RevokeTells", spec := "revokeTells", unfollowed := true, recurses := true, plainKeys := false, apart := false }
def RevokeTellsSaid : Prop := revokeTellsRow.holds Try.pinned (OpenSpec.ofChange revokeTellsSpec)

/-- ITS FALSE NEIGHBOUR: 'it returns false'. Refute it at one input. -/
def revokeTellsWrong : ChangeSpec := { name := "revokeTells", fn := fun _ => fun
  | [d] => { results := [.lit (.bool false)], args := [d] }
  | _ => none }
def RevokeTellsWrongFalsely : Prop := revokeTellsRow.holds Try.pinned (OpenSpec.ofChange revokeTellsWrong)

/-- 'finesselaw13.RevokeSmall': WHATEVER THE INPUT: true; the input reads as it did. -/
def revokeSmallSpec : ChangeSpec := { name := "revokeSmall", fn := fun _ => fun
  | [] => { results := [.lit (.bool true)], args := [] }
  | _ => none }
def revokeSmallRow : OpenClaim := { program := "ytdlnilebnobllaa", sum := "be1aa38a26f68baf899d288a98fd53410a8ca66624c2b5cb46a256b2b67d36d0", func := "finesse/finesselaw13.RevokeSmall", spec := "revokeSmall", unfollowed := true, recurses := true, plainKeys := false, apart := false }
def RevokeSmallSaid : Prop := revokeSmallRow.holds Try.pinned (OpenSpec.ofChange revokeSmallSpec)

/-- ITS FALSE NEIGHBOUR: 'it returns false'. Refute it at one input. -/
def revokeSmallWrong : ChangeSpec := { name := "revokeSmall", fn := fun _ => fun
  | [] => { results := [.lit (.bool false)], args := [] }
  | _ => none }
def RevokeSmallWrongFalsely : Prop := revokeSmallRow.holds Try.pinned (OpenSpec.ofChange revokeSmallWrong)

/-- 'finesselaw13.RevokeBounds': WHATEVER THE INPUT: true; the input reads as it did. -/
def revokeBoundsSpec : ChangeSpec := { name := "revokeBounds", fn := fun _ => fun
  | [d] => { results := [.lit (.bool true)], args := [d] }
  | _ => none }
def revokeBoundsRow : OpenClaim := { program := "ytdlnilebnobllaa", sum := "be1aa38a26f68baf899d288a98fd53410a8ca66624c2b5cb46a256b2b67d36d0", func := "finesse/finesselaw13.RevokeBounds", spec := "revokeBounds", unfollowed := true, recurses := true, plainKeys := false, apart := false }
def RevokeBoundsSaid : Prop := revokeBoundsRow.holds Try.pinned (OpenSpec.ofChange revokeBoundsSpec)

/-- ITS FALSE NEIGHBOUR: 'it returns false'. Refute it at one input. -/
def revokeBoundsWrong : ChangeSpec := { name := "revokeBounds", fn := fun _ => fun
  | [d] => { results := [.lit (.bool false)], args := [d] }
  | _ => none }
def RevokeBoundsWrongFalsely : Prop := revokeBoundsRow.holds Try.pinned (OpenSpec.ofChange revokeBoundsWrong)

/-- 'finesselaw13.RevokeFinds': WHATEVER THE INPUT: true; the input reads as it did. -/
def revokeFindsSpec : ChangeSpec := { name := "revokeFinds", fn := fun _ => fun
  | [d] => { results := [.lit (.bool true)], args := [d] }
  | _ => none }
def revokeFindsRow : OpenClaim := { program := "ytdlnilebnobllaa", sum := "be1aa38a26f68baf899d288a98fd53410a8ca66624c2b5cb46a256b2b67d36d0", func := "finesse/finesselaw13.RevokeFinds", spec := "revokeFinds", unfollowed := true, recurses := true, plainKeys := false, apart := false }
def RevokeFindsSaid : Prop := revokeFindsRow.holds Try.pinned (OpenSpec.ofChange revokeFindsSpec)

/-- ITS FALSE NEIGHBOUR: 'it returns false'. Refute it at one input. -/
def revokeFindsWrong : ChangeSpec := { name := "revokeFinds", fn := fun _ => fun
  | [d] => { results := [.lit (.bool false)], args := [d] }
  | _ => none }
def RevokeFindsWrongFalsely : Prop := revokeFindsRow.holds Try.pinned (OpenSpec.ofChange revokeFindsWrong)

/-- 'finesselaw13.RevokeParts': WHATEVER THE INPUT: true; the input reads as it did. -/
def revokePartsSpec : ChangeSpec := { name := "revokeParts", fn := fun _ => fun
  | [d1, d2] => { results := [.lit (.bool true)], args := [d1, d2] }
  | _ => none }
def revokePartsRow : OpenClaim := { program := "ytdlnilebnobllaa", sum := "be1aa38a26f68baf899d288a98fd53410a8ca66624c2b5cb46a256b2b67d36d0", func := "finesse/finesselaw13.RevokeParts", spec := "revokeParts", unfollowed := true, recurses := true, plainKeys := false, apart := false }
def RevokePartsSaid : Prop := revokePartsRow.holds Try.pinned (OpenSpec.ofChange revokePartsSpec)

/-- ITS FALSE NEIGHBOUR: 'it returns false'. Refute it at one input. -/
def revokePartsWrong : ChangeSpec := { name := "revokeParts", fn := fun _ => fun
  | [d1, d2] => { results := [.lit (.bool false)], args := [d1, d2] }
  | _ => none }
def RevokePartsWrongFalsely : Prop := revokePartsRow.holds Try.pinned (OpenSpec.ofChange revokePartsWrong)

/-- 'finesselaw13.RevokeTurned': WHATEVER THE INPUT: true; the input reads as it did. -/
def revokeTurnedSpec : ChangeSpec := { name := "revokeTurned", fn := fun _ => fun
  | [d] => { results := [.lit (.bool true)], args := [d] }
  | _ => none }
def revokeTurnedRow : OpenClaim := { program := "ytdlnilebnobllaa", sum := "be1aa38a26f68baf899d288a98fd53410a8ca66624c2b5cb46a256b2b67d36d0", func := "finesse/finesselaw13.RevokeTurned", spec := "revokeTurned", unfollowed := true, recurses := true, plainKeys := false, apart := false }
def RevokeTurnedSaid : Prop := revokeTurnedRow.holds Try.pinned (OpenSpec.ofChange revokeTurnedSpec)

/-- ITS FALSE NEIGHBOUR: 'it returns false'. Refute it at one input. -/
def revokeTurnedWrong : ChangeSpec := { name := "revokeTurned", fn := fun _ => fun
  | [d] => { results := [.lit (.bool false)], args := [d] }
  | _ => none }
def RevokeTurnedWrongFalsely : Prop := revokeTurnedRow.holds Try.pinned (OpenSpec.ofChange revokeTurnedWrong)

/-- 'finesselaw13.RevokeDummy': WHATEVER THE INPUT: true; the input reads as it did. -/
def revokeDummySpec : ChangeSpec := { name := "revokeDummy", fn := fun _ => fun
  | [d] => { results := [.lit (.bool true)], args := [d] }
  | _ => none }
def revokeDummyRow : OpenClaim := { program := "ytdlnilebnobllaa", sum := "be1aa38a26f68baf899d288a98fd53410a8ca66624c2b5cb46a256b2b67d36d0", func := "finesse/finesselaw13.RevokeDummy", spec := "revokeDummy", unfollowed := true, recurses := true, plainKeys := false, apart := false }
def RevokeDummySaid : Prop := revokeDummyRow.holds Try.pinned (OpenSpec.ofChange revokeDummySpec)

/-- ITS FALSE NEIGHBOUR: 'it returns false'. Refute it at one input. -/
def revokeDummyWrong : ChangeSpec := { name := "revokeDummy", fn := fun _ => fun
  | [d] => { results := [.lit (.bool false)], args := [d] }
  | _ => none }
def RevokeDummyWrongFalsely : Prop := revokeDummyRow.holds Try.pinned (OpenSpec.ofChange revokeDummyWrong)

/-- 'finesselaw13.RevokeWrong': WHATEVER THE INPUT: true; the input reads as it did. -/
def revokeWrongSpec : ChangeSpec := { name := "revokeWrong", fn := fun _ => fun
  | [d1, d2, d3] => { results := [.lit (.bool true)], args := [d1, d2, d3] }
  | _ => none }
def revokeWrongRow : OpenClaim := { program := "ytdlnilebnobllaa", sum := "be1aa38a26f68baf899d288a98fd53410a8ca66624c2b5cb46a256b2b67d36d0", func := "finesse/finesselaw13.RevokeWrong", spec := "revokeWrong", unfollowed := true, recurses := true, plainKeys := false, apart := false }
def RevokeWrongSaid : Prop := revokeWrongRow.holds Try.pinned (OpenSpec.ofChange revokeWrongSpec)

/-- ITS FALSE NEIGHBOUR: 'it returns false'. Refute it at one input. -/
def revokeWrongWrong : ChangeSpec := { name := "revokeWrong", fn := fun _ => fun
  | [d1, d2, d3] => { results := [.lit (.bool false)], args := [d1, d2, d3] }
  | _ => none }
def RevokeWrongWrongFalsely : Prop := revokeWrongRow.holds Try.pinned (OpenSpec.ofChange revokeWrongWrong)

/- THE SECOND FORM. 'bulk': how many values and letters a reading holds, each counted each time it is reached (what is shared counts as often as it is met; a slice's spare places count too). A statement '..UptoSaid' is the law's where the arguments, and the package variables that the reading takes, are together of bulk at most 1048576: NARROWER than '..Said'. Prove '..Said' where nothing that the law and all that it calls make is longer than what came in: it says more and counts as full. Else prove '..UptoSaid'. A law counts once. -/
mutual
def uptoBulk {H : Type} : DataW H → Nat
  | .lit (.string bytes) => bytes.length + 1
  | .lit _ => 1
  | .nil => 1
  | .ptr d => uptoBulk d + 1
  | .slice elems spare => uptoBulkAll elems + uptoBulkAll spare + 1
  | .agg parts => uptoBulkAll parts + 1
  | .iface _ d => uptoBulk d + 1
  | .map entries => uptoBulkEntries entries + 1
  | .held _ => 1
def uptoBulkAll {H : Type} : List (DataW H) → Nat
  | [] => 0
  | d :: r => uptoBulk d + uptoBulkAll r
def uptoBulkEntries {H : Type} : List (Lit × DataW H) → Nat
  | [] => 0
  | x :: r => uptoBulkEntry x + uptoBulkEntries r
def uptoBulkEntry {H : Type} : Lit × DataW H → Nat
  | (.string bytes, d) => bytes.length + uptoBulk d + 1
  | (_, d) => uptoBulk d + 1
 end
def uptoSmall : (H : Type) → List (DataW H) → Bool := fun _ ds => decide (uptoBulkAll ds ≤ 1048576)
def OpenSpec.upto (s : _root_.Go.ChangeSpec) : _root_.Go.OpenSpec := { _root_.Go.OpenSpec.ofChange s with cond := some uptoSmall }

/-- 'finesselaw13.RevokeTells', WHERE WHAT IT READS IS OF BULK AT MOST 1048576: true; the input reads as it did. -/
def revokeTellsUptoRow : OpenClaim := { program := "ytdlnilebnobllaa", sum := "be1aa38a26f68baf899d288a98fd53410a8ca66624c2b5cb46a256b2b67d36d0", func := "finesse/finesselaw13.RevokeTells", spec := "revokeTells", unfollowed := true, recurses := true, plainKeys := false, apart := false, narrowed := true }
def RevokeTellsUptoSaid : Prop := revokeTellsUptoRow.holds Try.pinned (OpenSpec.upto revokeTellsSpec)

/-- 'finesselaw13.RevokeSmall', WHERE WHAT IT READS IS OF BULK AT MOST 1048576: true; the input reads as it did. -/
def revokeSmallUptoRow : OpenClaim := { program := "ytdlnilebnobllaa", sum := "be1aa38a26f68baf899d288a98fd53410a8ca66624c2b5cb46a256b2b67d36d0", func := "finesse/finesselaw13.RevokeSmall", spec := "revokeSmall", unfollowed := true, recurses := true, plainKeys := false, apart := false, narrowed := true }
def RevokeSmallUptoSaid : Prop := revokeSmallUptoRow.holds Try.pinned (OpenSpec.upto revokeSmallSpec)

/-- 'finesselaw13.RevokeBounds', WHERE WHAT IT READS IS OF BULK AT MOST 1048576: true; the input reads as it did. -/
def revokeBoundsUptoRow : OpenClaim := { program := "ytdlnilebnobllaa", sum := "be1aa38a26f68baf899d288a98fd53410a8ca66624c2b5cb46a256b2b67d36d0", func := "finesse/finesselaw13.RevokeBounds", spec := "revokeBounds", unfollowed := true, recurses := true, plainKeys := false, apart := false, narrowed := true }
def RevokeBoundsUptoSaid : Prop := revokeBoundsUptoRow.holds Try.pinned (OpenSpec.upto revokeBoundsSpec)

/-- 'finesselaw13.RevokeFinds', WHERE WHAT IT READS IS OF BULK AT MOST 1048576: true; the input reads as it did. -/
def revokeFindsUptoRow : OpenClaim := { program := "ytdlnilebnobllaa", sum := "be1aa38a26f68baf899d288a98fd53410a8ca66624c2b5cb46a256b2b67d36d0", func := "finesse/finesselaw13.RevokeFinds", spec := "revokeFinds", unfollowed := true, recurses := true, plainKeys := false, apart := false, narrowed := true }
def RevokeFindsUptoSaid : Prop := revokeFindsUptoRow.holds Try.pinned (OpenSpec.upto revokeFindsSpec)

/-- 'finesselaw13.RevokeParts', WHERE WHAT IT READS IS OF BULK AT MOST 1048576: true; the input reads as it did. -/
def revokePartsUptoRow : OpenClaim := { program := "ytdlnilebnobllaa", sum := "be1aa38a26f68baf899d288a98fd53410a8ca66624c2b5cb46a256b2b67d36d0", func := "finesse/finesselaw13.RevokeParts", spec := "revokeParts", unfollowed := true, recurses := true, plainKeys := false, apart := false, narrowed := true }
def RevokePartsUptoSaid : Prop := revokePartsUptoRow.holds Try.pinned (OpenSpec.upto revokePartsSpec)

/-- 'finesselaw13.RevokeTurned', WHERE WHAT IT READS IS OF BULK AT MOST 1048576: true; the input reads as it did. -/
def revokeTurnedUptoRow : OpenClaim := { program := "ytdlnilebnobllaa", sum := "be1aa38a26f68baf899d288a98fd53410a8ca66624c2b5cb46a256b2b67d36d0", func := "finesse/finesselaw13.RevokeTurned", spec := "revokeTurned", unfollowed := true, recurses := true, plainKeys := false, apart := false, narrowed := true }
def RevokeTurnedUptoSaid : Prop := revokeTurnedUptoRow.holds Try.pinned (OpenSpec.upto revokeTurnedSpec)

/-- 'finesselaw13.RevokeDummy', WHERE WHAT IT READS IS OF BULK AT MOST 1048576: true; the input reads as it did. -/
def revokeDummyUptoRow : OpenClaim := { program := "ytdlnilebnobllaa", sum := "be1aa38a26f68baf899d288a98fd53410a8ca66624c2b5cb46a256b2b67d36d0", func := "finesse/finesselaw13.RevokeDummy", spec := "revokeDummy", unfollowed := true, recurses := true, plainKeys := false, apart := false, narrowed := true }
def RevokeDummyUptoSaid : Prop := revokeDummyUptoRow.holds Try.pinned (OpenSpec.upto revokeDummySpec)

/-- 'finesselaw13.RevokeWrong', WHERE WHAT IT READS IS OF BULK AT MOST 1048576: true; the input reads as it did. -/
def revokeWrongUptoRow : OpenClaim := { program := "ytdlnilebnobllaa", sum := "be1aa38a26f68baf899d288a98fd53410a8ca66624c2b5cb46a256b2b67d36d0", func := "finesse/finesselaw13.RevokeWrong", spec := "revokeWrong", unfollowed := true, recurses := true, plainKeys := false, apart := false, narrowed := true }
def RevokeWrongUptoSaid : Prop := revokeWrongUptoRow.holds Try.pinned (OpenSpec.upto revokeWrongSpec)

end Rows
end Go.Proofs.Ytdlnilebnobllaa
