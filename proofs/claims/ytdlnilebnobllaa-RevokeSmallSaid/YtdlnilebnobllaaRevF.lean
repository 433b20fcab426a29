/- Plain functions of package revoke: what Right, Winners, Find, won, moves, sides, count, Moved and Tricks compute of the rounds. Owned rows of revokes. -/
import Derived.Test.YtdlnilebnobllaaRevA
namespace Go.Proofs.Ytdlnilebnobllaa
open Go.RowKit

/-- how many cards of the tricks are right -/
def sumTo (l : List Rnd) : Nat := (l.map fun x => x.cards.length).sum
/-- revoke.Right -/
def Rc.rightV (r : Rc) : Int × Nat := if r.dealt then (if sumTo r.rnds < r.zs.length then ((sumTo r.rnds : Int), 131) else (-1, 0)) else (-1, 130)
/-- the winners of complete tricks -/
def winsTo (l : List Rnd) : List Nat := (l.filter fun x => x.cards.length == 4).map fun x => x.winner
/-- a revoke -/
structure Rvk where
  trick : Nat
  seat : Nat
  suit : Nat
  card : Nat
  est : Bool
deriving DecidableEq, Inhabited
/-- a revoke's cells -/
abbrev Rvk.cells (v : Rvk) : List Value := [.int .i64 (v.trick : Int), .int .u8 (v.seat : Int), .int .u8 (v.suit : Int), .int .u8 (v.card : Int), .bool v.est]
def rvks (l : List Rvk) : List Value := l.flatMap Rvk.cells
/-- revoke.establish -/
def estab (l : List Rvk) (num : Int) (seat : Nat) : List Rvk := l.map fun v => if (v.trick : Int) = num ∧ v.seat % 2 = seat % 2 then { v with est := true } else v
/-- one card of revoke.Find -/
def findStep (x : Rnd) (l : List Rvk) (i : Nat) : List Rvk :=
  if x.cards.getD i 0 / 13 ≠ x.cards.getD 0 0 / 13 ∧ land (shr (x.h ((x.leader + i) % 4)) (13 * (x.cards.getD 0 0 / 13))) 8191 ≠ 0
  then estab l ((x.num : Int) - 1) ((x.leader + i) % 4) ++ [⟨x.num, (x.leader + i) % 4, x.cards.getD 0 0 / 13, x.cards.getD i 0, false⟩]
  else estab l ((x.num : Int) - 1) ((x.leader + i) % 4)
def findTo (x : Rnd) (l : List Rvk) : Nat → List Rvk
  | 0 => l
  | k + 1 => findStep x (findTo x l k) k
def findRnd (l : List Rvk) (x : Rnd) : List Rvk := findTo x l x.cards.length
def findAll (l : List Rnd) : List Rvk := l.foldl findRnd []
/-- revoke.won -/
def wonV (ws : List Nat) (side start : Nat) : Nat := (ws.drop start).countP fun s => s % 2 == side
/-- revoke.moves -/
def movesV (v : Rvk) (ws : List Nat) : Nat := if ws.getD v.trick 0 = v.seat then 1 + min 1 (wonV ws (v.seat % 2) (v.trick + 1)) else min 1 (wonV ws (v.seat % 2) v.trick)
/-- revoke.sides -/
def sideV (l : List Rvk) (s : Nat) : Bool := l.any fun v => v.est && v.seat % 2 == s
/-- what revoke.count keeps: the pairs met, the limit, the sums -/
structure Cnt where
  met : List (Nat × Nat)
  lim : Nat
  s0 : Nat
  s1 : Nat
deriving Inhabited
def cntStep (d : Nat) (ws : List Nat) (c : Cnt) (v : Rvk) : Cnt :=
  if v.est = false ∨ v.seat = (d + 2) % 4 ∨ (v.seat, v.suit) ∈ c.met then c
  else
    let lim := if c.met = [] then wonV ws (v.seat % 2) v.trick else c.lim
    { met := c.met ++ [(v.seat, v.suit)], lim := lim,
      s0 := if v.seat % 2 = 0 then min lim (c.s0 + movesV v ws) else c.s0, s1 := if v.seat % 2 = 0 then c.s1 else min lim (c.s1 + movesV v ws) }
def cntAll (d : Nat) (ws : List Nat) (l : List Rvk) : Cnt := l.foldl (cntStep d ws) ⟨[], 0, 0, 0⟩

theorem sumTo_snoc (l : List Rnd) (x : Rnd) : sumTo (l ++ [x]) = sumTo l + x.cards.length := by simp [sumTo]
theorem winsTo_snoc (l : List Rnd) (x : Rnd) : winsTo (l ++ [x]) = if x.cards.length = 4 then winsTo l ++ [x.winner] else winsTo l := by
  unfold winsTo
  rw [List.filter_append, List.map_append]
  by_cases h : x.cards.length = 4
  · simp [h]
  · simp [h]
theorem findAll_snoc (l : List Rnd) (x : Rnd) : findAll (l ++ [x]) = findRnd (findAll l) x := by simp [findAll]
theorem rvks_length (l : List Rvk) : (rvks l).length = 5 * l.length := by
  induction l with
  | nil => rfl
  | cons v l ih => simp only [rvks, List.flatMap_cons, List.length_append, List.length_cons] at *; rw [ih]; simp; omega
theorem estab_length (l : List Rvk) (n : Int) (s : Nat) : (estab l n s).length = l.length := by simp [estab]
theorem rvks_append (l m : List Rvk) : rvks (l ++ m) = rvks l ++ rvks m := by simp [rvks]
end Go.Proofs.Ytdlnilebnobllaa
