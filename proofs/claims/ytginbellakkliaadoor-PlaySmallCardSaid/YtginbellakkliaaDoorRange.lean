/- The law for 'for c := range cards(m)' over this seat's program. -/
import Derived.Test.YtginbellakkliaaDoorIter
import Derived.Test.YtginbellakkliaaDoorMLow
namespace Go.Proofs.YtginbellakkliaaDoor
open Go.RowKit Go.Shelf Go.Sort
attribute [local go_sem] Oper.semAt_some

theorem keepsFrom_of_below {B : Nat} {W W' : World} (h : Below W.heap.size W W') : KeepsFrom B W W' :=
  ⟨h.size, fun k _ _ hk _ => (h.block k (Array.getElem?_eq_some_iff.1 hk).1).trans hk⟩
theorem boxed_below {W W' : World} {B : Nat} {t : TypeId} {v : Value} (h : Boxed W B t v) (hb : Below W.heap.size W W') : Boxed W' B t v := (hb.block B h.lt).trans h

/-- the frame in a round: the card lies in slots p and q -/
def inFrame (a : Act) (p q : Nat) (x : Fin 64) : Act := { tmps := (a.tmps.setIfInBounds p (.int .u8 (x.val : Int))).setIfInBounds q (.int .u8 (x.val : Int)), defers := [] }

theorem range_cards {n p q id ty : Nat} {ps : String} {body : Code} {g : Operand} {Q : Exit → Act → World → Prop} {a : Act} {w : World} (Bm n₀ m : Nat) (h1 : 1 ≤ n)
    (hg : a.eval g = .func (.func 82) #[] #[.pointer (some ⟨Bm, 0, none⟩)]) (hp : p < a.tmps.size) (hm : W64 m) (hc : w.cell? ⟨Bm, 0, none⟩ = some (.int .u64 (m : Int))) (hT : Tab w) (h0 : 0 < n₀) (hn : n₀ ≤ w.heap.size)
    (I : List (Fin 64) → World → Prop) (Ix : Code → List (Fin 64) → World → Prop) (hI : OwnFrom w.heap.size I) (hIx : ∀ c, OwnFrom w.heap.size (Ix c)) (hI0 : I [] w)
    (hbody : ∀ (l : Nat) (pre : List (Fin 64)) (x : Fin 64) (W : World), I pre W → pre.length < 64 → body.wpIn (Fence.wide.inRound l) (n - 1 - 1) Tryd.prog (ownPostG w.heap.size (Below n₀) I Ix (pre ++ [x]) W) (inFrame a p q x) W)
    (hdone : ∀ (D : Nat) (W : World), w.heap.size ≤ D → I (bitsList m) W → W.heap[D]? = some (.deferred (some [])) → Q .normal { a with defers := { target := .collected D, args := #[] } :: a.defers } W)
    (hstop : ∀ (D : Nat) (c : Code) (pre : List (Fin 64)) (W : World), w.heap.size ≤ D → pre <+: bitsList m → Ix c pre W → W.heap[D]? = some (.deferred (some [])) → c.wpIn Fence.wide n Tryd.prog Q { a with defers := { target := .collected D, args := #[] } :: a.defers } W) :
    (Code.rangeFunc g #[p] (Code.region id #[{ dst := some q, op := .assign (.tmp p), type := ty, pos := ps, after := #[], guard := none }] false) body).wpIn Fence.wide n Tryd.prog Q a w := by
  refine wpIn_rangeFunc_ownG rfl h1 hg trivial (enters_of Tryd.func82 (by kernel_rfl) rfl) (cards1_stops (n - 1) Bm n₀ m w hm h0 hc hT) belowK_t (belowK_b hn) (Below.refl _ _) (fun _ => rfl) I Ix hI hIx hI0 (inFrame a p q) ?_
    (fun l pre x W hi hlt => hbody l pre x W hi hlt) (fun D xs W hD hS hi hK => by subst hS; exact hdone D W hD hi hK) hstop
  intro l x W K hK
  refine wpIn_region_lit ?_
  simp only [List.zip_toArray, List.zip_cons_cons, List.zip_nil_left]
  simp [wpListIn, Oper.wpIn, go_sem, Oper.about, Oper.uponIn, execOp, Act.eval, Act.put, Exit.then]
  rw [if_pos hp]
  exact hK
end Go.Proofs.YtginbellakkliaaDoor
