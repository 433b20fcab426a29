/-
  No cell of these rows narrows 'for every input' (looked for: loops, veiled, ifaces, maps, wideKeys, modest, calm, conditions, laid).
  DERIVED. THE GIVEN ROWS OF THIS SEAT. 9 by the template 'for every input the law returns true; each argument reads behind the call as it read before'; 0 by the template 'total and deterministic' (their statements: YtmkplfndbjcflaaTotals.lean).
  GIVEN WITH THE SEED: the statements are not yours to turn. If you find one false, say at which input.
  Laid BY PROGRAM, IN A SANDBOX (cutbox-rows.mjs): the forced cells as the released guide's own fill.sh prints them over the translation b627bba348abacc9… (all of the seat's roots in one cut). By AI agents, Wed Nov 11 2026. No macro, syntax, notation, axiom, sorry.
-/
import Derived.Test.YtmkplfndbjcflaaChecked
import GoSem.Claim
import GoSem.ClaimJoined
import GoSem.ClaimMapViews
import Derived.JoinedTies
import Derived.KernelRfl
namespace Go.Proofs.Ytmkplfndbjcflaa
/- THE CELL 'sum', in the pinned program and in every row, IS THE sha256 OF THE DUMP (.gsa) THAT YtmkplfndbjcflaaProg.lean LOADS. Nothing in Lean hashes anything: it is a label: what it is worth is what the hold of that sum in a sandbox is worth. -/
noncomputable def Try.pinned : Pinned := { name := "ytmkplfndbjcflaa", sum := "b627bba348abacc915efb99b1b30ae30f8d99761caffa095f8a68e5948c63b2a", checked := Try.checked }
namespace Rows
def none {H : Type} : Left H := { results := [], args := [] }

/-- 'finesselaw40.AgreeTells': WHATEVER THE INPUT: true; the input reads as it did. -/
def agreeTellsSpec : ChangeSpec := { name := "agreeTells", fn := fun _ => fun
  | [d1, d2, d3, d4, d5] => { results := [.lit (.bool true)], args := [d1, d2, d3, d4, d5] }
  | _ => none }
def agreeTellsRow : OpenClaim := { program := "ytmkplfndbjcflaa", sum := "b627bba348abacc915efb99b1b30ae30f8d99761caffa095f8a68e5948c63b2a", func := "finesse/finesselaw40.AgreeTells", spec := "agreeTells", unfollowed := true, recurses := true, apart := false }
def AgreeTellsSaid : Prop := agreeTellsRow.holds Try.pinned (OpenSpec.ofChange agreeTellsSpec)

/-- ITS FALSE NEIGHBOUR: 'it returns false'. Refute it at one input. -/
def agreeTellsWrong : ChangeSpec := { name := "agreeTells", fn := fun _ => fun
  | [d1, d2, d3, d4, d5] => { results := [.lit (.bool false)], args := [d1, d2, d3, d4, d5] }
  | _ => none }
def AgreeTellsWrongFalsely : Prop := agreeTellsRow.holds Try.pinned (OpenSpec.ofChange agreeTellsWrong)

/-- 'finesselaw40.AgreeEither': WHATEVER THE INPUT: true; the input reads as it did. -/
def agreeEitherSpec : ChangeSpec := { name := "agreeEither", fn := fun _ => fun
  | [d1, d2, d3, d4] => { results := [.lit (.bool true)], args := [d1, d2, d3, d4] }
  | _ => none }
def agreeEitherRow : OpenClaim := { program := "ytmkplfndbjcflaa", sum := "b627bba348abacc915efb99b1b30ae30f8d99761caffa095f8a68e5948c63b2a", func := "finesse/finesselaw40.AgreeEither", spec := "agreeEither", unfollowed := true, recurses := true, apart := false }
def AgreeEitherSaid : Prop := agreeEitherRow.holds Try.pinned (OpenSpec.ofChange agreeEitherSpec)

/-- ITS FALSE NEIGHBOUR: 'it returns false'. Refute it at one input. -/
def agreeEitherWrong : ChangeSpec := { name := "agreeEither", fn := fun _ => fun
  | [d1, d2, d3, d4] => { results := [.lit (.bool false)], args := [d1, d2, d3, d4] }
  | _ => none }
def AgreeEitherWrongFalsely : Prop := agreeEitherRow.holds Try.pinned (OpenSpec.ofChange agreeEitherWrong)

/-- 'finesselaw40.AgreeWithout': WHATEVER THE INPUT: true; the input reads as it did. -/
def agreeWithoutSpec : ChangeSpec := { name := "agreeWithout", fn := fun _ => fun
  | [d1, d2, d3, d4, d5] => { results := [.lit (.bool true)], args := [d1, d2, d3, d4, d5] }
  | _ => none }
def agreeWithoutRow : OpenClaim := { program := "ytmkplfndbjcflaa", sum := "b627bba348abacc915efb99b1b30ae30f8d99761caffa095f8a68e5948c63b2a", func := "finesse/finesselaw40.AgreeWithout", spec := "agreeWithout", unfollowed := true, recurses := true, apart := false }
def AgreeWithoutSaid : Prop := agreeWithoutRow.holds Try.pinned (OpenSpec.ofChange agreeWithoutSpec)

/-- ITS FALSE NEIGHBOUR: 'it returns false'. Refute it at one input. -/
def agreeWithoutWrong : ChangeSpec := { name := "agreeWithout", fn := fun _ => fun
  | [d1, d2, d3, d4, d5] => { results := [.lit (.bool false)], args := [d1, d2, d3, d4, d5] }
  | _ => none }
def AgreeWithoutWrongFalsely : Prop := agreeWithoutRow.holds Try.pinned (OpenSpec.ofChange agreeWithoutWrong)

/-- 'finesselaw40.AgreeSmall': WHATEVER THE INPUT: true; the input reads as it did. -/
def agreeSmallSpec : ChangeSpec := { name := "agreeSmall", fn := fun _ => fun
  | [] => { results := [.lit (.bool true)], args := [] }
  | _ => none }
def agreeSmallRow : OpenClaim := { program := "ytmkplfndbjcflaa", sum := "b627bba348abacc915efb99b1b30ae30f8d99761caffa095f8a68e5948c63b2a", func := "finesse/finesselaw40.AgreeSmall", spec := "agreeSmall", unfollowed := true, recurses := true, apart := false }
def AgreeSmallSaid : Prop := agreeSmallRow.holds Try.pinned (OpenSpec.ofChange agreeSmallSpec)

/-- ITS FALSE NEIGHBOUR: 'it returns false'. Refute it at one input. -/
def agreeSmallWrong : ChangeSpec := { name := "agreeSmall", fn := fun _ => fun
  | [] => { results := [.lit (.bool false)], args := [] }
  | _ => none }
def AgreeSmallWrongFalsely : Prop := agreeSmallRow.holds Try.pinned (OpenSpec.ofChange agreeSmallWrong)

/-- 'finesselaw40.AgreeSuits': WHATEVER THE INPUT: true; the input reads as it did. -/
def agreeSuitsSpec : ChangeSpec := { name := "agreeSuits", fn := fun _ => fun
  | [d1, d2, d3, d4] => { results := [.lit (.bool true)], args := [d1, d2, d3, d4] }
  | _ => none }
def agreeSuitsRow : OpenClaim := { program := "ytmkplfndbjcflaa", sum := "b627bba348abacc915efb99b1b30ae30f8d99761caffa095f8a68e5948c63b2a", func := "finesse/finesselaw40.AgreeSuits", spec := "agreeSuits", unfollowed := true, recurses := true, apart := false }
def AgreeSuitsSaid : Prop := agreeSuitsRow.holds Try.pinned (OpenSpec.ofChange agreeSuitsSpec)

/-- ITS FALSE NEIGHBOUR: 'it returns false'. Refute it at one input. -/
def agreeSuitsWrong : ChangeSpec := { name := "agreeSuits", fn := fun _ => fun
  | [d1, d2, d3, d4] => { results := [.lit (.bool false)], args := [d1, d2, d3, d4] }
  | _ => none }
def AgreeSuitsWrongFalsely : Prop := agreeSuitsRow.holds Try.pinned (OpenSpec.ofChange agreeSuitsWrong)

/-- 'finesselaw40.AgreeSpreads': WHATEVER THE INPUT: true; the input reads as it did. -/
def agreeSpreadsSpec : ChangeSpec := { name := "agreeSpreads", fn := fun _ => fun
  | [d1, d2, d3, d4, d5] => { results := [.lit (.bool true)], args := [d1, d2, d3, d4, d5] }
  | _ => none }
def agreeSpreadsRow : OpenClaim := { program := "ytmkplfndbjcflaa", sum := "b627bba348abacc915efb99b1b30ae30f8d99761caffa095f8a68e5948c63b2a", func := "finesse/finesselaw40.AgreeSpreads", spec := "agreeSpreads", unfollowed := true, recurses := true, apart := false }
def AgreeSpreadsSaid : Prop := agreeSpreadsRow.holds Try.pinned (OpenSpec.ofChange agreeSpreadsSpec)

/-- ITS FALSE NEIGHBOUR: 'it returns false'. Refute it at one input. -/
def agreeSpreadsWrong : ChangeSpec := { name := "agreeSpreads", fn := fun _ => fun
  | [d1, d2, d3, d4, d5] => { results := [.lit (.bool false)], args := [d1, d2, d3, d4, d5] }
  | _ => none }
def AgreeSpreadsWrongFalsely : Prop := agreeSpreadsRow.holds Try.pinned (OpenSpec.ofChange agreeSpreadsWrong)

/-- 'finesselaw40.AgreeCounts': WHATEVER THE INPUT: true; the input reads as it did. -/
def agreeCountsSpec : ChangeSpec := { name := "agreeCounts", fn := fun _ => fun
  | [d1, d2, d3, d4, d5] => { results := [.lit (.bool true)], args := [d1, d2, d3, d4, d5] }
  | _ => none }
def agreeCountsRow : OpenClaim := { program := "ytmkplfndbjcflaa", sum := "b627bba348abacc915efb99b1b30ae30f8d99761caffa095f8a68e5948c63b2a", func := "finesse/finesselaw40.AgreeCounts", spec := "agreeCounts", unfollowed := true, recurses := true, apart := false }
def AgreeCountsSaid : Prop := agreeCountsRow.holds Try.pinned (OpenSpec.ofChange agreeCountsSpec)

/-- ITS FALSE NEIGHBOUR: 'it returns false'. Refute it at one input. -/
def agreeCountsWrong : ChangeSpec := { name := "agreeCounts", fn := fun _ => fun
  | [d1, d2, d3, d4, d5] => { results := [.lit (.bool false)], args := [d1, d2, d3, d4, d5] }
  | _ => none }
def AgreeCountsWrongFalsely : Prop := agreeCountsRow.holds Try.pinned (OpenSpec.ofChange agreeCountsWrong)

/-- 'finesselaw40.AgreeSums': WHATEVER THE INPUT: true; the input reads as it did. -/
def agreeSumsSpec : ChangeSpec := { name := "agreeSums", fn := fun _ => fun
  | [d1, d2, d3] => { results := [.lit (.bool true)], args := [d1, d2, d3] }
  | _ => none }
def agreeSumsRow : OpenClaim := { program := "ytmkplfndbjcflaa", sum := "b627bba348abacc915efb99b1b30ae30f8d99761caffa095f8a68e5948c63b2a", func := "finesse/finesselaw40.AgreeSums", spec := "agreeSums", unfollowed := true, recurses := true, apart := false }
def AgreeSumsSaid : Prop := agreeSumsRow.holds Try.pinned (OpenSpec.ofChange agreeSumsSpec)

/-- ITS FALSE NEIGHBOUR: 'it returns false'. Refute it at one input. -/
def agreeSumsWrong : ChangeSpec := { name := "agreeSums", fn := fun _ => fun
  | [d1, d2, d3] => { results := [.lit (.bool false)], args := [d1, d2, d3] }
  | _ => none }
def AgreeSumsWrongFalsely : Prop := agreeSumsRow.holds Try.pinned (OpenSpec.ofChange agreeSumsWrong)

/-- 'finesselaw40.AgreeWrong': WHATEVER THE INPUT: true; the input reads as it did. -/
def agreeWrongSpec : ChangeSpec := { name := "agreeWrong", fn := fun _ => fun
  | [d1, d2, d3, d4] => { results := [.lit (.bool true)], args := [d1, d2, d3, d4] }
  | _ => none }
def agreeWrongRow : OpenClaim := { program := "ytmkplfndbjcflaa", sum := "b627bba348abacc915efb99b1b30ae30f8d99761caffa095f8a68e5948c63b2a", func := "finesse/finesselaw40.AgreeWrong", spec := "agreeWrong", unfollowed := true, recurses := true, apart := false }
def AgreeWrongSaid : Prop := agreeWrongRow.holds Try.pinned (OpenSpec.ofChange agreeWrongSpec)

/-- ITS FALSE NEIGHBOUR: 'it returns false'. Refute it at one input. -/
def agreeWrongWrong : ChangeSpec := { name := "agreeWrong", fn := fun _ => fun
  | [d1, d2, d3, d4] => { results := [.lit (.bool false)], args := [d1, d2, d3, d4] }
  | _ => none }
def AgreeWrongWrongFalsely : Prop := agreeWrongRow.holds Try.pinned (OpenSpec.ofChange agreeWrongWrong)

/- THE SECOND FORM. 'bulk': how many values and letters a reading holds, each counted each time it is reached (what is shared counts as often as it is met; a slice's spare places count too). A statement '..UptoSaid' is the law's where the arguments, and the package variables that the reading takes, are together of bulk at most 1048576: NARROWER than '..Said'. Prove '..Said' where nothing that the law and all that it calls make is longer than what came in: it says more and counts as full. Else prove '..UptoSaid'. A law counts once. -/
mutual
def uptoBulk {H : Type} : DataW H → Nat
  | .lit (.string bytes) => bytes.length + 1
  | .lit _ => 1
  | .nil => 1
  | .ptr d => uptoBulk d + 1
  | .slice elems spare => uptoBulkAll elems + uptoBulkAll spare + 1
  | .agg parts => uptoBulkAll parts + 1
  | .iface _ d => uptoBulk d + 1
  | .map entries => uptoBulkEntries entries + 1
  | .held _ => 1
def uptoBulkAll {H : Type} : List (DataW H) → Nat
  | [] => 0
  | d :: r => uptoBulk d + uptoBulkAll r
def uptoBulkEntries {H : Type} : List (Lit × DataW H) → Nat
  | [] => 0
  | x :: r => uptoBulkEntry x + uptoBulkEntries r
def uptoBulkEntry {H : Type} : Lit × DataW H → Nat
  | (.string bytes, d) => bytes.length + uptoBulk d + 1
  | (_, d) => uptoBulk d + 1
 end
def uptoSmall : (H : Type) → List (DataW H) → Bool := fun _ ds => decide (uptoBulkAll ds ≤ 1048576)
def OpenSpec.upto (s : _root_.Go.ChangeSpec) : _root_.Go.OpenSpec := { _root_.Go.OpenSpec.ofChange s with cond := some uptoSmall }

/-- 'finesselaw40.AgreeTells', WHERE WHAT IT READS IS OF BULK AT MOST 1048576: true; the input reads as it did. -/
def agreeTellsUptoRow : OpenClaim := { program := "ytmkplfndbjcflaa", sum := "b627bba348abacc915efb99b1b30ae30f8d99761caffa095f8a68e5948c63b2a", func := "finesse/finesselaw40.AgreeTells", spec := "agreeTells", unfollowed := true, recurses := true, apart := false, narrowed := true }
def AgreeTellsUptoSaid : Prop := agreeTellsUptoRow.holds Try.pinned (OpenSpec.upto agreeTellsSpec)

/-- 'finesselaw40.AgreeEither', WHERE WHAT IT READS IS OF BULK AT MOST 1048576: true; the input reads as it did. -/
def agreeEitherUptoRow : OpenClaim := { program := "ytmkplfndbjcflaa", sum := "b627bba348abacc915efb99b1b30ae30f8d99761caffa095f8a68e5948c63b2a", func := "finesse/finesselaw40.AgreeEither", spec := "agreeEither", unfollowed := true, recurses := true, apart := false, narrowed := true }
def AgreeEitherUptoSaid : Prop := agreeEitherUptoRow.holds Try.pinned (OpenSpec.upto agreeEitherSpec)

/-- 'finesselaw40.AgreeWithout', WHERE WHAT IT READS IS OF BULK AT MOST 1048576: true; the input reads as it did. -/
def agreeWithoutUptoRow : OpenClaim := { program := "ytmkplfndbjcflaa", sum := "b627bba348abacc915efb99b1b30ae30f8d99761caffa095f8a68e5948c63b2a", func := "finesse/finesselaw40.AgreeWithout", spec := "agreeWithout", unfollowed := true, recurses := true, apart := false, narrowed := true }
def AgreeWithoutUptoSaid : Prop := agreeWithoutUptoRow.holds Try.pinned (OpenSpec.upto agreeWithoutSpec)

/-- 'finesselaw40.AgreeSmall', WHERE WHAT IT READS IS OF BULK AT MOST 1048576: true; the input reads as it did. -/
def agreeSmallUptoRow : OpenClaim := { program := "ytmkplfndbjcflaa", sum := "b627bba348abacc915efb99b1b30ae30f8d99761caffa095f8a68e5948c63b2a", func := "finesse/finesselaw40.AgreeSmall", spec := "agreeSmall", unfollowed := true, recurses := true, apart := false, narrowed := true }
def AgreeSmallUptoSaid : Prop := agreeSmallUptoRow.holds Try.pinned (OpenSpec.upto agreeSmallSpec)

/-- 'finesselaw40.AgreeSuits', WHERE WHAT IT READS IS OF BULK AT MOST 1048576: true; the input reads as it did. -/
def agreeSuitsUptoRow : OpenClaim := { program := "ytmkplfndbjcflaa", sum := "b627bba348abacc915efb99b1b30ae30f8d99761caffa095f8a68e5948c63b2a", func := "finesse/finesselaw40.AgreeSuits", spec := "agreeSuits", unfollowed := true, recurses := true, apart := false, narrowed := true }
def AgreeSuitsUptoSaid : Prop := agreeSuitsUptoRow.holds Try.pinned (OpenSpec.upto agreeSuitsSpec)

/-- 'finesselaw40.AgreeSpreads', WHERE WHAT IT READS IS OF BULK AT MOST 1048576: true; the input reads as it did. -/
def agreeSpreadsUptoRow : OpenClaim := { program := "ytmkplfndbjcflaa", sum := "b627bba348abacc915efb99b1b30ae30f8d99761caffa095f8a68e5948c63b2a", func := "finesse/finesselaw40.AgreeSpreads", spec := "agreeSpreads", unfollowed := true, recurses := true, apart := false, narrowed := true }
def AgreeSpreadsUptoSaid : Prop := agreeSpreadsUptoRow.holds Try.pinned (OpenSpec.upto agreeSpreadsSpec)

/-- 'finesselaw40.AgreeCounts', WHERE WHAT IT READS IS OF BULK AT MOST 1048576: true; the input reads as it did. -/
def agreeCountsUptoRow : OpenClaim := { program := "ytmkplfndbjcflaa", sum := "b627bba348abacc915efb99b1b30ae30f8d99761caffa095f8a68e5948c63b2a", func := "finesse/finesselaw40.AgreeCounts", spec := "agreeCounts", unfollowed := true, recurses := true, apart := false, narrowed := true }
def AgreeCountsUptoSaid : Prop := agreeCountsUptoRow.holds Try.pinned (OpenSpec.upto agreeCountsSpec)

/-- 'finesselaw40.AgreeSums', WHERE WHAT IT READS IS OF BULK AT MOST 1048576: true; the input reads as it did. -/
def agreeSumsUptoRow : OpenClaim := { program := "ytmkplfndbjcflaa", sum := "b627bba348abacc915efb99b1b30ae30f8d99761caffa095f8a68e5948c63b2a", func := "finesse/finesselaw40.AgreeSums", spec := "agreeSums", unfollowed := true, recurses := true, apart := false, narrowed := true }
def AgreeSumsUptoSaid : Prop := agreeSumsUptoRow.holds Try.pinned (OpenSpec.upto agreeSumsSpec)

/-- 'finesselaw40.AgreeWrong', WHERE WHAT IT READS IS OF BULK AT MOST 1048576: true; the input reads as it did. -/
def agreeWrongUptoRow : OpenClaim := { program := "ytmkplfndbjcflaa", sum := "b627bba348abacc915efb99b1b30ae30f8d99761caffa095f8a68e5948c63b2a", func := "finesse/finesselaw40.AgreeWrong", spec := "agreeWrong", unfollowed := true, recurses := true, apart := false, narrowed := true }
def AgreeWrongUptoSaid : Prop := agreeWrongUptoRow.holds Try.pinned (OpenSpec.upto agreeWrongSpec)

end Rows
end Go.Proofs.Ytmkplfndbjcflaa
