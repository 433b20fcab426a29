/- Plain functions of package revoke: the rounds of a record. Memory lemmas on a block that is known whole. -/
import Derived.Test.YtdlnilebnobllaaMTrick
import Derived.Test.YtdlnilebnobllaaMOnes
import Derived.Test.YtdlnilebnobllaaGen
namespace Go.Proofs.Ytdlnilebnobllaa
open Go.RowKit

/-- a block known whole -/
def Row (W : World) (B : Nat) (t : TypeId) (c : Array Value) : Prop := W.heap[B]? = some (.cells c t (0, 0))
theorem Row.lt {W : World} {B : Nat} {t : TypeId} {c : Array Value} (h : Row W B t c) : B < W.heap.size := (Array.getElem?_eq_some_iff.1 h).1
theorem Row.cell {W : World} {B : Nat} {t : TypeId} {c : Array Value} (h : Row W B t c) (i : Nat) : W.cell? ⟨B, i, none⟩ = c[i]? := by
  simp [World.cell?, show W.heap[B]? = _ from h]
theorem Row.frozen {W : World} {B : Nat} {t : TypeId} {c : Array Value} (h : Row W B t c) (i : Nat) : W.frozen? ⟨B, i, none⟩ = false := by
  simp [World.frozen?, show W.heap[B]? = _ from h]
theorem Row.new (W : World) (t : TypeId) (c : Array Value) : Row (W.alloc (.cells c t)) W.heap.size t c := World.alloc_heap_new W _
theorem Row.same {W W' : World} {B : Nat} {t : TypeId} {c : Array Value} (h : Row W B t c) (e : W'.heap[B]? = W.heap[B]?) : Row W' B t c := e.trans h
theorem Row.below {W W' : World} {B n : Nat} {t : TypeId} {c : Array Value} (h : Row W B t c) (hn : B < n) (hb : Below n W W') : Row W' B t c := h.same (hb.block B hn)
theorem Row.kept {W W' : World} {B : Nat} {S : Nat → Prop} {t : TypeId} {c : Array Value} (h : Row W B t c) (hs : S B) (hk : Kept S W W') : Row W' B t c := h.same (hk.block B hs h.lt)
theorem Row.alloc {W : World} {B : Nat} {t : TypeId} {c : Array Value} (h : Row W B t c) (o : Obj) : Row (W.alloc o) B t c := h.same (Below.heap_alloc W o B h.lt)
theorem Row.set {W : World} {B : Nat} {t : TypeId} {c : Array Value} (h : Row W B t c) (i : Nat) (v : Value) : Row (W.setCell ⟨B, i, none⟩ v) B t (c.setIfInBounds i v) := by
  unfold Row World.setCell
  rw [Array.getElem?_modify]
  simp [show W.heap[B]? = _ from h]
theorem Row.other {W : World} {B B' i : Nat} {t : TypeId} {c : Array Value} {v : Value} (h : Row W B t c) (hne : B ≠ B') : Row (W.setCell ⟨B', i, none⟩ v) B t c := by
  refine h.same ?_
  unfold World.setCell
  rw [Array.getElem?_modify, if_neg (fun e => hne e.symm)]

/-- four words -/
abbrev arr4 (h : Nat → Nat) : Array Value := #[.int .u64 (h 0 : Int), .int .u64 (h 1 : Int), .int .u64 (h 2 : Int), .int .u64 (h 3 : Int)]
/-- one word of four changed -/
def setH (h : Nat → Nat) (s v : Nat) : Nat → Nat := fun j => if j = s then v else h j
theorem arr4_get (h : Nat → Nat) (s : Nat) (hs : s < 4) : (arr4 h)[s]? = some (.int .u64 (h s : Int)) := by
  have : s = 0 ∨ s = 1 ∨ s = 2 ∨ s = 3 := by omega
  rcases this with rfl | rfl | rfl | rfl <;> rfl
theorem arr4_set (h : Nat → Nat) (s v : Nat) (hs : s < 4) : (arr4 h).setIfInBounds s (.int .u64 (v : Int)) = arr4 (setH h s v) := by
  have : s = 0 ∨ s = 1 ∨ s = 2 ∨ s = 3 := by omega
  rcases this with rfl | rfl | rfl | rfl <;> rfl

/-- a record -/
structure Rc where
  h : Nat → Nat
  t : Nat
  d : Nat
  zs : List Nat
/-- a record's value, with its slice -/
abbrev Rc.v (r : Rc) (a : Option Addr) (len cap : Nat) : Value := .agg #[.int .u64 (r.h 0 : Int), .int .u64 (r.h 1 : Int), .int .u64 (r.h 2 : Int), .int .u64 (r.h 3 : Int), .int .u8 (r.t : Int), .int .u8 (r.d : Int), .slice a len cap]
abbrev Rc.cells (r : Rc) (a : Option Addr) (len cap : Nat) : Array Value := #[.int .u64 (r.h 0 : Int), .int .u64 (r.h 1 : Int), .int .u64 (r.h 2 : Int), .int .u64 (r.h 3 : Int), .int .u8 (r.t : Int), .int .u8 (r.d : Int), .slice a len cap]
/-- a record in range -/
structure Rc.ok (r : Rc) (len cap : Nat) : Prop where
  h : ∀ j, W64 (r.h j)
  t : r.t < 256
  d : r.d < 256
  lc : len ≤ cap
  mx : cap ≤ 9223372036854775807

/-- a trick of a record -/
structure Rnd where
  num : Nat
  h : Nat → Nat
  leader : Nat
  winner : Nat
  cards : List Nat
/-- a trick is played as far as each card is in the hand of its seat: the hands behind, and how many cards -/
def takeT (ld : Nat) : (Nat → Nat) → Nat → List Nat → (Nat → Nat) × Nat
  | h, i, [] => (h, i)
  | h, i, c :: cs => if (h ((ld + i) % 4)).testBit c then takeT ld (setH h ((ld + i) % 4) (landn (h ((ld + i) % 4)) (shl1 c))) (i + 1) cs else (h, i)
theorem takeT_le (ld : Nat) : ∀ (l : List Nat) (h : Nat → Nat) (i : Nat), i ≤ (takeT ld h i l).2 ∧ (takeT ld h i l).2 ≤ i + l.length
  | [], h, i => by simp [takeT]
  | c :: cs, h, i => by
    unfold takeT
    split
    · have := takeT_le ld cs (setH h ((ld + i) % 4) (landn (h ((ld + i) % 4)) (shl1 c))) (i + 1)
      simp only [List.length_cons]; omega
    · simp
/-- the tricks of a record from one on -/
def rnds (t : Nat) : Nat → (Nat → Nat) → Nat → List Nat → List Rnd
  | num, h, ld, a :: b :: c :: d :: rest =>
    if (takeT ld h 0 [a, b, c, d]).2 = 4 then ⟨num, h, ld, (seatV t ld [a, b, c, d]).1, [a, b, c, d]⟩ :: rnds t (num + 1) (takeT ld h 0 [a, b, c, d]).1 (seatV t ld [a, b, c, d]).1 rest
    else [⟨num, h, ld, 0, [a, b, c, d].take (takeT ld h 0 [a, b, c, d]).2⟩]
  | _, _, _, [] => []
  | num, h, ld, l => [⟨num, h, ld, 0, l.take (takeT ld h 0 l).2⟩]
theorem rnds_full {t num ld : Nat} {h : Nat → Nat} {zs : List Nat} (h4 : (takeT ld h 0 (zs.take 4)).2 = 4) :
    rnds t num h ld zs = ⟨num, h, ld, (seatV t ld (zs.take 4)).1, zs.take 4⟩ :: rnds t (num + 1) (takeT ld h 0 (zs.take 4)).1 (seatV t ld (zs.take 4)).1 (zs.drop 4) := by
  match zs, h4 with
  | a :: b :: c :: d :: rest, h4 => simp only [List.take_succ_cons, List.take_zero, List.drop_succ_cons, List.drop_zero] at h4 ⊢; rw [rnds, if_pos h4]
  | [], h4 => simp [takeT] at h4
  | [a], h4 => have := (takeT_le ld [a] h 0).2; simp at h4 this; omega
  | [a, b], h4 => have := (takeT_le ld [a, b] h 0).2; simp at h4 this; omega
  | [a, b, c], h4 => have := (takeT_le ld [a, b, c] h 0).2; simp at h4 this; omega
theorem rnds_part {t num ld : Nat} {h : Nat → Nat} {zs : List Nat} (h0 : zs ≠ []) (h4 : (takeT ld h 0 (zs.take 4)).2 ≠ 4) :
    rnds t num h ld zs = [⟨num, h, ld, 0, (zs.take 4).take (takeT ld h 0 (zs.take 4)).2⟩] := by
  match zs, h4 with
  | a :: b :: c :: d :: rest, h4 => simp only [List.take_succ_cons, List.take_zero] at h4 ⊢; rw [rnds, if_neg h4]
  | [], h4 => exact absurd rfl h0
  | [a], h4 => rfl
  | [a, b], h4 => rfl
  | [a, b, c], h4 => rfl
theorem seatV_lt (t l : Nat) (zs : List Nat) : (seatV t l zs).1 < 4 := by
  unfold seatV; split
  · simp
  · split
    · exact Nat.mod_lt _ (by omega)
    · simp
/-- all tricks of a record -/
def Rc.rnds (r : Rc) : List Rnd := Go.Proofs.Ytdlnilebnobllaa.rnds r.t 0 r.h ((r.d + 1) % 4) r.zs
end Go.Proofs.Ytdlnilebnobllaa
