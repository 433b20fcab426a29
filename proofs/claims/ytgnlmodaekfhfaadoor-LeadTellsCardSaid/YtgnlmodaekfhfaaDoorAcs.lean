/- Acts of finesselaw14 that came in, in memory. -/
import Derived.Test.YtgnlmodaekfhfaaDoorLdQ
namespace Go.Proofs.YtgnlmodaekfhfaaDoor
open Go.RowKit Go.Shelf Go.Sort

abbrev AcT.cells (a : AcT) : Array Value := #[.int .u8 (a.kind : Int), .int .u8 (a.seat : Int), .int .u8 (a.card : Int)]
structure AcT.ok (a : AcT) : Prop where
  kind : a.kind < 256
  seat : a.seat < 256
  card : a.card < 256
/-- acts that came in -/
structure Acts (w : World) (a : Option Addr) (len : Nat) (l : List AcT) : Prop where
  length : l.length = len
  small : len ≤ 562949953421312
  ok : ∀ (i : Nat) x, l[i]? = some x → x.ok
  cells : len = 0 ∨ ∃ b off, a = some ⟨b, off, none⟩ ∧ b < w.heap.size ∧ ∀ (i : Nat) x, l[i]? = some x → ∀ j, j < 3 → w.cell? ⟨b, off + i * 3 + j, none⟩ = x.cells[j]?
theorem Acts.kept {S : Nat → Prop} {w w' : World} {a : Option Addr} {len : Nat} {l : List AcT} (h : Acts w a len l) (hs : ∀ b, b < w.heap.size → (∃ ad, a = some ad ∧ ad.block = b) → S b) (hk : Kept S w w') : Acts w' a len l := by
  refine ⟨h.length, h.small, h.ok, ?_⟩
  rcases h.cells with h0 | ⟨b, off, rfl, hb, hc⟩
  · exact .inl h0
  · exact .inr ⟨b, off, rfl, Nat.lt_of_lt_of_le hb hk.size, fun i x hx j hj => (hk.cell (p := ⟨b, off + i * 3 + j, none⟩) (hs b hb ⟨_, rfl, rfl⟩) hb).trans (hc i x hx j hj)⟩
theorem Acts.below {w w' : World} {a : Option Addr} {len : Nat} {l : List AcT} (h : Acts w a len l) (hb : Below w.heap.size w w') : Acts w' a len l :=
  h.kept (S := fun _ => True) (fun _ _ _ => trivial) (Kept.of_below hb)
end Go.Proofs.YtgnlmodaekfhfaaDoor
