/- Slices of bytes that came in. -/
import Derived.Test.YtpobcaopfeddgaaDoorTab
namespace Go.Proofs.YtpobcaopfeddgaaDoor
open Go.RowKit

/-- A slice of bytes that reads as the list zs in the world w. -/
structure Byt (w : World) (a : Option Addr) (len : Nat) (zs : List Nat) : Prop where
  length : zs.length = len
  small : len ≤ 140737488351232
  byte : ∀ i, zs.getD i 0 < 256
  cells : len = 0 ∨ ∃ b off, a = some ⟨b, off, none⟩ ∧ b < w.heap.size ∧ ∀ i, i < len → w.cell? ⟨b, off + i, none⟩ = some (.int .u8 ((zs.getD i 0 : Nat) : Int))

theorem Byt.at {w : World} {a : Option Addr} {len : Nat} {zs : List Nat} (h : Byt w a len zs) (hp : 0 < len) :
    ∃ b off, a = some ⟨b, off, none⟩ ∧ b < w.heap.size ∧ ∀ i, i < len → w.cell? ⟨b, off + i, none⟩ = some (.int .u8 ((zs.getD i 0 : Nat) : Int)) := by
  rcases h.cells with h | h
  · omega
  · exact h
theorem Byt.below {w w' : World} {a : Option Addr} {len : Nat} {zs : List Nat} (h : Byt w a len zs) {B : Nat} (hB : w.heap.size ≤ B) (hb : Below B w w') : Byt w' a len zs := by
  refine ⟨h.length, h.small, h.byte, ?_⟩
  rcases h.cells with h | ⟨b, off, ha, hlt, hc⟩
  · exact .inl h
  · exact .inr ⟨b, off, ha, Nat.lt_of_lt_of_le hlt hb.size, fun i hi => (hb.cell (p := ⟨b, off + i, none⟩) (Nat.lt_of_lt_of_le hlt hB)).trans (hc i hi)⟩

end Go.Proofs.YtpobcaopfeddgaaDoor
