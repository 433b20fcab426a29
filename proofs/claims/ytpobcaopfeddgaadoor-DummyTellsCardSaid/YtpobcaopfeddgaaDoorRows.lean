/-
  NARROWER THAN 'FOR EVERY INPUT', by the rows' own cells (each row's printed sentence says how): DummyTells: laid · DummyBest: laid · DummyTurned: laid · DummySuits: laid · DummyHigh: laid · DummyMakes: laid · DummyTables: laid · DummyWrong: laid.
  DERIVED. THE GIVEN ROWS OF THIS SEAT. 8 by the template 'for every input the law returns true; each argument reads behind the call as it read before'; 0 by the template 'total and deterministic' (their statements: YtpobcaopfeddgaaDoorTotals.lean).
  GIVEN WITH THE SEED: the statements are not yours to turn. If you find one false, say at which input.
  Laid BY PROGRAM, IN A SANDBOX (cutbox-rows.mjs): the forced cells as the released guide's own fill.sh prints them over the translation 87ca139be454d799… (all of the seat's roots in one cut). By AI agents, Wed Nov 11 2026. No macro, syntax, notation, axiom, sorry.
-/
import Derived.Test.YtpobcaopfeddgaaDoorChecked
import GoSem.Claim
import GoSem.ClaimJoined
import GoSem.ClaimMapViews
import Derived.JoinedTies
import Derived.KernelRfl
namespace Go.Proofs.YtpobcaopfeddgaaDoor
/- THE CELL 'sum', in the pinned program and in every row, IS THE sha256 OF THE DUMP (.gsa) THAT YtpobcaopfeddgaaDoorProg.lean LOADS. Nothing in Lean hashes anything: it is a label: what it is worth is what the hold of that sum in a sandbox is worth. -/
noncomputable def Tryd.pinned : Pinned := { name := "ytpobcaopfeddgaadoor", sum := "87ca139be454d79916e19fa069c9d9f32cd79a8177e54ab002140ca9d173c9ca", checked := Tryd.checked }
namespace Rows
def none {H : Type} : Left H := { results := [], args := [] }

/- WHAT THE LISTED PACKAGE-LEVEL VARIABLES READ AS WHEN THE CALL BEGINS. Each datum BY PROGRAM (the guide's laid-datum.mjs) off the statement by which the dump's own 'gosem.cut.vars' lays the variable. In a bare row this is a premise. The card (YtpobcaopfeddgaaDoorCards.lean) ties it to the program's text. -/
def laid_math_bits_deBruijn64tab {H : Type} : DataW H := .agg [.lit (.int .u8 0), .lit (.int .u8 1), .lit (.int .u8 56), .lit (.int .u8 2), .lit (.int .u8 57), .lit (.int .u8 49), .lit (.int .u8 28), .lit (.int .u8 3), .lit (.int .u8 61), .lit (.int .u8 58), .lit (.int .u8 42), .lit (.int .u8 50), .lit (.int .u8 38), .lit (.int .u8 29), .lit (.int .u8 17), .lit (.int .u8 4), .lit (.int .u8 62), .lit (.int .u8 47), .lit (.int .u8 59), .lit (.int .u8 36), .lit (.int .u8 45), .lit (.int .u8 43), .lit (.int .u8 51), .lit (.int .u8 22), .lit (.int .u8 53), .lit (.int .u8 39), .lit (.int .u8 33), .lit (.int .u8 30), .lit (.int .u8 24), .lit (.int .u8 18), .lit (.int .u8 12), .lit (.int .u8 5), .lit (.int .u8 63), .lit (.int .u8 55), .lit (.int .u8 48), .lit (.int .u8 27), .lit (.int .u8 60), .lit (.int .u8 41), .lit (.int .u8 37), .lit (.int .u8 16), .lit (.int .u8 46), .lit (.int .u8 35), .lit (.int .u8 44), .lit (.int .u8 21), .lit (.int .u8 52), .lit (.int .u8 32), .lit (.int .u8 23), .lit (.int .u8 11), .lit (.int .u8 54), .lit (.int .u8 26), .lit (.int .u8 40), .lit (.int .u8 15), .lit (.int .u8 34), .lit (.int .u8 20), .lit (.int .u8 31), .lit (.int .u8 10), .lit (.int .u8 25), .lit (.int .u8 14), .lit (.int .u8 19), .lit (.int .u8 9), .lit (.int .u8 13), .lit (.int .u8 8), .lit (.int .u8 7), .lit (.int .u8 6)]

/-- 'finesselaw15.DummyTells': WHATEVER THE INPUT: true; the input reads as it did. -/
def dummyTellsSpec : ChangeSpec := { name := "dummyTells", fn := fun _ => fun
  | [d1, d2] => { results := [.lit (.bool true)], args := [d1, d2] }
  | _ => none }
def dummyTellsRow : OpenClaim := { program := "ytpobcaopfeddgaadoor", sum := "87ca139be454d79916e19fa069c9d9f32cd79a8177e54ab002140ca9d173c9ca", func := "finesse/finesselaw15.DummyTells", spec := "dummyTells", unfollowed := true, recurses := true, named := ["math/bits.deBruijn64tab"], plainKeys := false, apart := false, laid := [("math/bits.deBruijn64tab", laid_math_bits_deBruijn64tab)] }
def DummyTellsSaid : Prop := dummyTellsRow.holds Tryd.pinned (OpenSpec.ofChange dummyTellsSpec)

/-- ITS FALSE NEIGHBOUR: 'it returns false'. Refute it at one input. -/
def dummyTellsWrong : ChangeSpec := { name := "dummyTells", fn := fun _ => fun
  | [d1, d2] => { results := [.lit (.bool false)], args := [d1, d2] }
  | _ => none }
def DummyTellsWrongFalsely : Prop := dummyTellsRow.holds Tryd.pinned (OpenSpec.ofChange dummyTellsWrong)

/-- 'finesselaw15.DummyBest': WHATEVER THE INPUT: true; the input reads as it did. -/
def dummyBestSpec : ChangeSpec := { name := "dummyBest", fn := fun _ => fun
  | [d1, d2, d3, d4] => { results := [.lit (.bool true)], args := [d1, d2, d3, d4] }
  | _ => none }
def dummyBestRow : OpenClaim := { program := "ytpobcaopfeddgaadoor", sum := "87ca139be454d79916e19fa069c9d9f32cd79a8177e54ab002140ca9d173c9ca", func := "finesse/finesselaw15.DummyBest", spec := "dummyBest", unfollowed := true, recurses := true, named := ["math/bits.deBruijn64tab"], plainKeys := false, apart := false, laid := [("math/bits.deBruijn64tab", laid_math_bits_deBruijn64tab)] }
def DummyBestSaid : Prop := dummyBestRow.holds Tryd.pinned (OpenSpec.ofChange dummyBestSpec)

/-- ITS FALSE NEIGHBOUR: 'it returns false'. Refute it at one input. -/
def dummyBestWrong : ChangeSpec := { name := "dummyBest", fn := fun _ => fun
  | [d1, d2, d3, d4] => { results := [.lit (.bool false)], args := [d1, d2, d3, d4] }
  | _ => none }
def DummyBestWrongFalsely : Prop := dummyBestRow.holds Tryd.pinned (OpenSpec.ofChange dummyBestWrong)

/-- 'finesselaw15.DummyTurned': WHATEVER THE INPUT: true; the input reads as it did. -/
def dummyTurnedSpec : ChangeSpec := { name := "dummyTurned", fn := fun _ => fun
  | [d1, d2, d3, d4] => { results := [.lit (.bool true)], args := [d1, d2, d3, d4] }
  | _ => none }
def dummyTurnedRow : OpenClaim := { program := "ytpobcaopfeddgaadoor", sum := "87ca139be454d79916e19fa069c9d9f32cd79a8177e54ab002140ca9d173c9ca", func := "finesse/finesselaw15.DummyTurned", spec := "dummyTurned", unfollowed := true, recurses := true, named := ["math/bits.deBruijn64tab"], plainKeys := false, apart := false, laid := [("math/bits.deBruijn64tab", laid_math_bits_deBruijn64tab)] }
def DummyTurnedSaid : Prop := dummyTurnedRow.holds Tryd.pinned (OpenSpec.ofChange dummyTurnedSpec)

/-- ITS FALSE NEIGHBOUR: 'it returns false'. Refute it at one input. -/
def dummyTurnedWrong : ChangeSpec := { name := "dummyTurned", fn := fun _ => fun
  | [d1, d2, d3, d4] => { results := [.lit (.bool false)], args := [d1, d2, d3, d4] }
  | _ => none }
def DummyTurnedWrongFalsely : Prop := dummyTurnedRow.holds Tryd.pinned (OpenSpec.ofChange dummyTurnedWrong)

/-- 'finesselaw15.DummySuits': WHATEVER THE INPUT: true; the input reads as it did. -/
def dummySuitsSpec : ChangeSpec := { name := "dummySuits", fn := fun _ => fun
  | [d1, d2, d3, d4, d5] => { results := [.lit (.bool true)], args := [d1, d2, d3, d4, d5] }
  | _ => none }
def dummySuitsRow : OpenClaim := { program := "ytpobcaopfeddgaadoor", sum := "87ca139be454d79916e19fa069c9d9f32cd79a8177e54ab002140ca9d173c9ca", func := "finesse/finesselaw15.DummySuits", spec := "dummySuits", unfollowed := true, recurses := true, named := ["math/bits.deBruijn64tab"], plainKeys := false, apart := false, laid := [("math/bits.deBruijn64tab", laid_math_bits_deBruijn64tab)] }
def DummySuitsSaid : Prop := dummySuitsRow.holds Tryd.pinned (OpenSpec.ofChange dummySuitsSpec)

/-- ITS FALSE NEIGHBOUR: 'it returns false'. Refute it at one input. -/
def dummySuitsWrong : ChangeSpec := { name := "dummySuits", fn := fun _ => fun
  | [d1, d2, d3, d4, d5] => { results := [.lit (.bool false)], args := [d1, d2, d3, d4, d5] }
  | _ => none }
def DummySuitsWrongFalsely : Prop := dummySuitsRow.holds Tryd.pinned (OpenSpec.ofChange dummySuitsWrong)

/-- 'finesselaw15.DummyHigh': WHATEVER THE INPUT: true; the input reads as it did. -/
def dummyHighSpec : ChangeSpec := { name := "dummyHigh", fn := fun _ => fun
  | [d1, d2, d3, d4] => { results := [.lit (.bool true)], args := [d1, d2, d3, d4] }
  | _ => none }
def dummyHighRow : OpenClaim := { program := "ytpobcaopfeddgaadoor", sum := "87ca139be454d79916e19fa069c9d9f32cd79a8177e54ab002140ca9d173c9ca", func := "finesse/finesselaw15.DummyHigh", spec := "dummyHigh", unfollowed := true, recurses := true, named := ["math/bits.deBruijn64tab"], plainKeys := false, apart := false, laid := [("math/bits.deBruijn64tab", laid_math_bits_deBruijn64tab)] }
def DummyHighSaid : Prop := dummyHighRow.holds Tryd.pinned (OpenSpec.ofChange dummyHighSpec)

/-- ITS FALSE NEIGHBOUR: 'it returns false'. Refute it at one input. -/
def dummyHighWrong : ChangeSpec := { name := "dummyHigh", fn := fun _ => fun
  | [d1, d2, d3, d4] => { results := [.lit (.bool false)], args := [d1, d2, d3, d4] }
  | _ => none }
def DummyHighWrongFalsely : Prop := dummyHighRow.holds Tryd.pinned (OpenSpec.ofChange dummyHighWrong)

/-- 'finesselaw15.DummyMakes': WHATEVER THE INPUT: true; the input reads as it did. -/
def dummyMakesSpec : ChangeSpec := { name := "dummyMakes", fn := fun _ => fun
  | [d] => { results := [.lit (.bool true)], args := [d] }
  | _ => none }
def dummyMakesRow : OpenClaim := { program := "ytpobcaopfeddgaadoor", sum := "87ca139be454d79916e19fa069c9d9f32cd79a8177e54ab002140ca9d173c9ca", func := "finesse/finesselaw15.DummyMakes", spec := "dummyMakes", unfollowed := true, recurses := true, named := ["math/bits.deBruijn64tab"], plainKeys := false, apart := false, laid := [("math/bits.deBruijn64tab", laid_math_bits_deBruijn64tab)] }
def DummyMakesSaid : Prop := dummyMakesRow.holds Tryd.pinned (OpenSpec.ofChange dummyMakesSpec)

/-- ITS FALSE NEIGHBOUR: 'it returns false'. Refute it at one input. -/
def dummyMakesWrong : ChangeSpec := { name := "dummyMakes", fn := fun _ => fun
  | [d] => { results := [.lit (.bool false)], args := [d] }
  | _ => none }
def DummyMakesWrongFalsely : Prop := dummyMakesRow.holds Tryd.pinned (OpenSpec.ofChange dummyMakesWrong)

/-- 'finesselaw15.DummyTables': WHATEVER THE INPUT: true; the input reads as it did. -/
def dummyTablesSpec : ChangeSpec := { name := "dummyTables", fn := fun _ => fun
  | [d1, d2] => { results := [.lit (.bool true)], args := [d1, d2] }
  | _ => none }
def dummyTablesRow : OpenClaim := { program := "ytpobcaopfeddgaadoor", sum := "87ca139be454d79916e19fa069c9d9f32cd79a8177e54ab002140ca9d173c9ca", func := "finesse/finesselaw15.DummyTables", spec := "dummyTables", unfollowed := true, recurses := true, named := ["math/bits.deBruijn64tab"], plainKeys := false, apart := false, laid := [("math/bits.deBruijn64tab", laid_math_bits_deBruijn64tab)] }
def DummyTablesSaid : Prop := dummyTablesRow.holds Tryd.pinned (OpenSpec.ofChange dummyTablesSpec)

/-- ITS FALSE NEIGHBOUR: 'it returns false'. Refute it at one input. -/
def dummyTablesWrong : ChangeSpec := { name := "dummyTables", fn := fun _ => fun
  | [d1, d2] => { results := [.lit (.bool false)], args := [d1, d2] }
  | _ => none }
def DummyTablesWrongFalsely : Prop := dummyTablesRow.holds Tryd.pinned (OpenSpec.ofChange dummyTablesWrong)

/-- 'finesselaw15.DummyWrong': WHATEVER THE INPUT: true; the input reads as it did. -/
def dummyWrongSpec : ChangeSpec := { name := "dummyWrong", fn := fun _ => fun
  | [d1, d2, d3, d4, d5, d6] => { results := [.lit (.bool true)], args := [d1, d2, d3, d4, d5, d6] }
  | _ => none }
def dummyWrongRow : OpenClaim := { program := "ytpobcaopfeddgaadoor", sum := "87ca139be454d79916e19fa069c9d9f32cd79a8177e54ab002140ca9d173c9ca", func := "finesse/finesselaw15.DummyWrong", spec := "dummyWrong", unfollowed := true, recurses := true, named := ["math/bits.deBruijn64tab"], plainKeys := false, apart := false, laid := [("math/bits.deBruijn64tab", laid_math_bits_deBruijn64tab)] }
def DummyWrongSaid : Prop := dummyWrongRow.holds Tryd.pinned (OpenSpec.ofChange dummyWrongSpec)

/-- ITS FALSE NEIGHBOUR: 'it returns false'. Refute it at one input. -/
def dummyWrongWrong : ChangeSpec := { name := "dummyWrong", fn := fun _ => fun
  | [d1, d2, d3, d4, d5, d6] => { results := [.lit (.bool false)], args := [d1, d2, d3, d4, d5, d6] }
  | _ => none }
def DummyWrongWrongFalsely : Prop := dummyWrongRow.holds Tryd.pinned (OpenSpec.ofChange dummyWrongWrong)

/- THE SECOND FORM. 'bulk': how many values and letters a reading holds, each counted each time it is reached (what is shared counts as often as it is met; a slice's spare places count too). A statement '..UptoSaid' is the law's where the arguments, and the package variables that the reading takes, are together of bulk at most 1048576: NARROWER than '..Said'. Prove '..Said' where nothing that the law and all that it calls make is longer than what came in: it says more and counts as full. Else prove '..UptoSaid'. A law counts once. -/
mutual
def uptoBulk {H : Type} : DataW H → Nat
  | .lit (.string bytes) => bytes.length + 1
  | .lit _ => 1
  | .nil => 1
  | .ptr d => uptoBulk d + 1
  | .slice elems spare => uptoBulkAll elems + uptoBulkAll spare + 1
  | .agg parts => uptoBulkAll parts + 1
  | .iface _ d => uptoBulk d + 1
  | .map entries => uptoBulkEntries entries + 1
  | .held _ => 1
def uptoBulkAll {H : Type} : List (DataW H) → Nat
  | [] => 0
  | d :: r => uptoBulk d + uptoBulkAll r
def uptoBulkEntries {H : Type} : List (Lit × DataW H) → Nat
  | [] => 0
  | x :: r => uptoBulkEntry x + uptoBulkEntries r
def uptoBulkEntry {H : Type} : Lit × DataW H → Nat
  | (.string bytes, d) => bytes.length + uptoBulk d + 1
  | (_, d) => uptoBulk d + 1
 end
def uptoSmall : (H : Type) → List (DataW H) → Bool := fun _ ds => decide (uptoBulkAll ds ≤ 1048576)
def OpenSpec.upto (s : _root_.Go.ChangeSpec) : _root_.Go.OpenSpec := { _root_.Go.OpenSpec.ofChange s with cond := some uptoSmall }

/-- 'finesselaw15.DummyTells', WHERE WHAT IT READS IS OF BULK AT MOST 1048576: true; the input reads as it did. -/
def dummyTellsUptoRow : OpenClaim := { program := "ytpobcaopfeddgaadoor", sum := "87ca139be454d79916e19fa069c9d9f32cd79a8177e54ab002140ca9d173c9ca", func := "finesse/finesselaw15.DummyTells", spec := "dummyTells", unfollowed := true, recurses := true, named := ["math/bits.deBruijn64tab"], plainKeys := false, apart := false, laid := [("math/bits.deBruijn64tab", laid_math_bits_deBruijn64tab)], narrowed := true }
def DummyTellsUptoSaid : Prop := dummyTellsUptoRow.holds Tryd.pinned (OpenSpec.upto dummyTellsSpec)

/-- 'finesselaw15.DummyBest', WHERE WHAT IT READS IS OF BULK AT MOST 1048576: true; the input reads as it did. -/
def dummyBestUptoRow : OpenClaim := { program := "ytpobcaopfeddgaadoor", sum := "87ca139be454d79916e19fa069c9d9f32cd79a8177e54ab002140ca9d173c9ca", func := "finesse/finesselaw15.DummyBest", spec := "dummyBest", unfollowed := true, recurses := true, named := ["math/bits.deBruijn64tab"], plainKeys := false, apart := false, laid := [("math/bits.deBruijn64tab", laid_math_bits_deBruijn64tab)], narrowed := true }
def DummyBestUptoSaid : Prop := dummyBestUptoRow.holds Tryd.pinned (OpenSpec.upto dummyBestSpec)

/-- 'finesselaw15.DummyTurned', WHERE WHAT IT READS IS OF BULK AT MOST 1048576: true; the input reads as it did. -/
def dummyTurnedUptoRow : OpenClaim := { program := "ytpobcaopfeddgaadoor", sum := "87ca139be454d79916e19fa069c9d9f32cd79a8177e54ab002140ca9d173c9ca", func := "finesse/finesselaw15.DummyTurned", spec := "dummyTurned", unfollowed := true, recurses := true, named := ["math/bits.deBruijn64tab"], plainKeys := false, apart := false, laid := [("math/bits.deBruijn64tab", laid_math_bits_deBruijn64tab)], narrowed := true }
def DummyTurnedUptoSaid : Prop := dummyTurnedUptoRow.holds Tryd.pinned (OpenSpec.upto dummyTurnedSpec)

/-- 'finesselaw15.DummySuits', WHERE WHAT IT READS IS OF BULK AT MOST 1048576: true; the input reads as it did. -/
def dummySuitsUptoRow : OpenClaim := { program := "ytpobcaopfeddgaadoor", sum := "87ca139be454d79916e19fa069c9d9f32cd79a8177e54ab002140ca9d173c9ca", func := "finesse/finesselaw15.DummySuits", spec := "dummySuits", unfollowed := true, recurses := true, named := ["math/bits.deBruijn64tab"], plainKeys := false, apart := false, laid := [("math/bits.deBruijn64tab", laid_math_bits_deBruijn64tab)], narrowed := true }
def DummySuitsUptoSaid : Prop := dummySuitsUptoRow.holds Tryd.pinned (OpenSpec.upto dummySuitsSpec)

/-- 'finesselaw15.DummyHigh', WHERE WHAT IT READS IS OF BULK AT MOST 1048576: true; the input reads as it did. -/
def dummyHighUptoRow : OpenClaim := { program := "ytpobcaopfeddgaadoor", sum := "87ca139be454d79916e19fa069c9d9f32cd79a8177e54ab002140ca9d173c9ca", func := "finesse/finesselaw15.DummyHigh", spec := "dummyHigh", unfollowed := true, recurses := true, named := ["math/bits.deBruijn64tab"], plainKeys := false, apart := false, laid := [("math/bits.deBruijn64tab", laid_math_bits_deBruijn64tab)], narrowed := true }
def DummyHighUptoSaid : Prop := dummyHighUptoRow.holds Tryd.pinned (OpenSpec.upto dummyHighSpec)

/-- 'finesselaw15.DummyMakes', WHERE WHAT IT READS IS OF BULK AT MOST 1048576: true; the input reads as it did. -/
def dummyMakesUptoRow : OpenClaim := { program := "ytpobcaopfeddgaadoor", sum := "87ca139be454d79916e19fa069c9d9f32cd79a8177e54ab002140ca9d173c9ca", func := "finesse/finesselaw15.DummyMakes", spec := "dummyMakes", unfollowed := true, recurses := true, named := ["math/bits.deBruijn64tab"], plainKeys := false, apart := false, laid := [("math/bits.deBruijn64tab", laid_math_bits_deBruijn64tab)], narrowed := true }
def DummyMakesUptoSaid : Prop := dummyMakesUptoRow.holds Tryd.pinned (OpenSpec.upto dummyMakesSpec)

/-- 'finesselaw15.DummyTables', WHERE WHAT IT READS IS OF BULK AT MOST 1048576: true; the input reads as it did. -/
def dummyTablesUptoRow : OpenClaim := { program := "ytpobcaopfeddgaadoor", sum := "87ca139be454d79916e19fa069c9d9f32cd79a8177e54ab002140ca9d173c9ca", func := "finesse/finesselaw15.DummyTables", spec := "dummyTables", unfollowed := true, recurses := true, named := ["math/bits.deBruijn64tab"], plainKeys := false, apart := false, laid := [("math/bits.deBruijn64tab", laid_math_bits_deBruijn64tab)], narrowed := true }
def DummyTablesUptoSaid : Prop := dummyTablesUptoRow.holds Tryd.pinned (OpenSpec.upto dummyTablesSpec)

/-- 'finesselaw15.DummyWrong', WHERE WHAT IT READS IS OF BULK AT MOST 1048576: true; the input reads as it did. -/
def dummyWrongUptoRow : OpenClaim := { program := "ytpobcaopfeddgaadoor", sum := "87ca139be454d79916e19fa069c9d9f32cd79a8177e54ab002140ca9d173c9ca", func := "finesse/finesselaw15.DummyWrong", spec := "dummyWrong", unfollowed := true, recurses := true, named := ["math/bits.deBruijn64tab"], plainKeys := false, apart := false, laid := [("math/bits.deBruijn64tab", laid_math_bits_deBruijn64tab)], narrowed := true }
def DummyWrongUptoSaid : Prop := dummyWrongUptoRow.holds Tryd.pinned (OpenSpec.upto dummyWrongSpec)

end Rows
end Go.Proofs.YtpobcaopfeddgaaDoor
