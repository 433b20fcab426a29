/- Plain functions of package play: what a play holds, and what its methods return. -/
import Derived.Test.YtginbellakkliaaDoorMem
import Derived.Test.YtginbellakkliaaDoorMTrick
import Derived.Test.YtginbellakkliaaDoorPlayS
namespace Go.Proofs.YtginbellakkliaaDoor
open Go.RowKit

/-- the hands that are left, and the trick under way -/
structure PSt where
  h : Nat → Nat
  ld : Nat
  ct : Nat
  cs : Nat → Nat
/-- its cells -/
abbrev PSt.cells (s : PSt) : List Value := [.int .u64 (s.h 0 : Int), .int .u64 (s.h 1 : Int), .int .u64 (s.h 2 : Int), .int .u64 (s.h 3 : Int), .int .u8 (s.ld : Int), .int .u8 (s.ct : Int), .int .u8 (s.cs 0 : Int), .int .u8 (s.cs 1 : Int), .int .u8 (s.cs 2 : Int), .int .u8 (s.cs 3 : Int)]
/-- a card that was played, with the state before it -/
structure Stp where
  st : PSt
  c : Nat
abbrev Stp.cells (x : Stp) : List Value := [.int .u64 (x.st.h 0 : Int), .int .u64 (x.st.h 1 : Int), .int .u64 (x.st.h 2 : Int), .int .u64 (x.st.h 3 : Int), .int .u8 (x.st.ld : Int), .int .u8 (x.st.ct : Int), .int .u8 (x.st.cs 0 : Int), .int .u8 (x.st.cs 1 : Int), .int .u8 (x.st.cs 2 : Int), .int .u8 (x.st.cs 3 : Int), .int .u8 (x.c : Int)]
theorem stp_len (x : Stp) : x.cells.length = 11 := rfl
/-- a play -/
structure Ply where
  st : PSt
  lv : Nat
  dn : Nat
  rk : Nat
  dc : Nat
  steps : List Stp
  back : List Nat
abbrev Ply.cells (p : Ply) (vs vb : Value) : Array Value := #[.int .u64 (p.st.h 0 : Int), .int .u64 (p.st.h 1 : Int), .int .u64 (p.st.h 2 : Int), .int .u64 (p.st.h 3 : Int), .int .u8 (p.st.ld : Int), .int .u8 (p.st.ct : Int), .int .u8 (p.st.cs 0 : Int), .int .u8 (p.st.cs 1 : Int), .int .u8 (p.st.cs 2 : Int), .int .u8 (p.st.cs 3 : Int), .int .u8 (p.lv : Int), .int .u8 (p.dn : Int), .int .u8 (p.rk : Int), .int .u8 (p.dc : Int), vs, vb]
/-- a state in range -/
structure PSt.ok (s : PSt) : Prop where
  h : ∀ j, W64 (s.h j)
  ld : s.ld < 4
  ct : s.ct < 4
  cs : ∀ j, s.cs j < 52
structure Ply.ok (p : Ply) : Prop where
  st : p.st.ok
  lv : 1 ≤ p.lv ∧ p.lv ≤ 7
  dn : p.dn ≤ 4
  rk : p.rk ≤ 2
  dc : p.dc ≤ 3
  steps : ∀ x ∈ p.steps, x.st.ok ∧ x.c < 52
  back : ∀ c ∈ p.back, c < 52
  many : p.steps.length + p.back.length ≤ 60000
/-- the seat whose turn it is -/
def PSt.next (s : PSt) : Nat := (s.ld + s.ct) % 4
/-- the cards of the trick under way -/
def PSt.trick (s : PSt) : List Nat := (List.range s.ct).map s.cs
def PSt.over (s : PSt) : Bool := s.h 0 == 0 && s.h 1 == 0 && s.h 2 == 0 && s.h 3 == 0
/-- the legal cards -/
def PSt.legal (s : PSt) : Nat := if s.over then 0 else (playableV (s.h s.next) s.trick).1
/-- a card played -/
def PSt.put (s : PSt) (dn c : Nat) : PSt :=
  if s.ct = 3 then ⟨setH s.h s.next (landn (s.h s.next) (shl1 c)), (seatV dn s.ld [s.cs 0, s.cs 1, s.cs 2, c]).1, 0, fun _ => 0⟩
  else ⟨setH s.h s.next (landn (s.h s.next) (shl1 c)), s.ld, s.ct + 1, setH s.cs s.ct c⟩
def Ply.put (p : Ply) (c : Nat) : Ply := { p with st := p.st.put p.dn c, steps := p.steps ++ [⟨p.st, c⟩] }
/-- Do, Undo, Redo: the error and the play after it -/
def Ply.doV (p : Ply) (c : Nat) : Nat × Ply :=
  if p.st.over then (121, p) else if c < 52 ∧ p.st.legal.testBit c = true then (0, { p with back := [] }.put c) else (122, p)
def Ply.undoV (p : Ply) : Nat × Ply :=
  match p.steps.getLast? with
  | none => (6, p)
  | some x => (0, { p with st := x.st, steps := p.steps.dropLast, back := p.back ++ [x.c] })
def Ply.turnV (p : Ply) : Nat × Nat := if p.st.over then (0, 121) else (p.st.next, 0)
def Ply.dummy (p : Ply) : Nat := (p.dc + 2) % 4
def Ply.chooserV (p : Ply) : Nat × Nat := if p.st.over then (0, 121) else if p.st.next = p.dummy then (p.dc, 0) else (p.st.next, 0)
/-- the winner of the i-th complete trick -/
def Ply.winAt (p : Ply) (i : Nat) : Nat :=
  match p.steps[4 * i + 3]? with
  | none => 0
  | some x => (seatV p.dn x.st.ld [x.st.cs 0, x.st.cs 1, x.st.cs 2, x.c]).1
/-- tricks of the first i that side s won -/
def Ply.wonTo (p : Ply) (s : Nat) : Nat → Nat
  | 0 => 0
  | i + 1 => p.wonTo s i + (if p.winAt i % 2 = s then 1 else 0)
def Ply.won (p : Ply) (s : Nat) : Nat := p.wonTo s (p.steps.length / 4)
def Ply.resultV (p : Ply) : Nat × Nat := if p.st.over then (p.won (p.dc % 2), 0) else (0, 123)
end Go.Proofs.YtginbellakkliaaDoor
