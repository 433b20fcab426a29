/- Plain: what signal.Check answers; and the world between its steps. -/
import Derived.Test.YtikdkhiehfccpaaMSgf
namespace Go.Proofs.Ytikdkhiehfccpaa
open Go.RowKit Go.Sort Go.Shelf Cnt Go.Maps

theorem gv_sum (ds : List Ft) (nn : Nat) (Q : (Nat → Nat) → Nat → Bool) (ls : List Rl) (h : rightS ls = true) : sumN 10 (fun s => gvC ds nn Q ls (s : Int)) = cntF ds nn Q := by
  unfold gvC cntF
  rw [sumN_sumF]
  refine sumF_congr fun x => ?_
  by_cases hs : x.size = nn
  · simp only [if_pos hs]
    obtain ⟨h0, h9⟩ := sig_range h (lenF x) x.p
    have e : ∀ s : Nat, (decide (sigP ls (lenF x) x.p = (s : Int)) && Q (lenF x) x.p) = (Q (lenF x) x.p && decide ((sigP ls (lenF x) x.p).toNat = s)) := fun s => by
      rw [Bool.and_comm]
      congr 1
      rw [decide_eq_decide]
      omega
    simp only [e]
    exact pick_one 10 _ (by omega) _
  · simp only [if_neg hs]
    exact sumN_zero 10
theorem gv_part (left : Nat) (n : Int) (ls : List Rl) (h : rightS ls = true) (k : Nat) (hk : k ≤ 10) : sumN k (cnV left n ls) ≤ 4503599627370496 := by
  refine Nat.le_trans ?_ (gv_le left n.toNat QT)
  rw [← gv_sum (deck left) n.toNat QT ls h]
  obtain ⟨d, hd⟩ : ∃ d, 10 = k + d := ⟨10 - k, by omega⟩
  rw [hd, sumN_app]
  exact Nat.le_add_right _ _
/-- the faults of a claim -/
def f1 (i : Nat) (s : Int) (one fit : Nat) : List Fl := if fit < one then [⟨(i : Int), s, 1, (one : Int) - (fit : Int)⟩] else []
def f2 (i : Nat) (s lo : Int) (one T : Nat) : List Fl := if 1000 * (one : Int) < lo * (T : Int) then [⟨(i : Int), s, 2, (one : Int)⟩] else []
def f3 (i : Nat) (s hi : Int) (one T : Nat) : List Fl := if hi * (T : Int) < 1000 * (one : Int) then [⟨(i : Int), s, 3, (one : Int)⟩] else []
def fC (cnt : Nat → Nat) (fit : Cm → Nat) (T : Nat) (i : Nat) (c : Cm) : List Fl := f1 i c.s (cnt c.s.toNat) (fit c) ++ (f2 i c.s c.lo (cnt c.s.toNat) T ++ f3 i c.s c.hi (cnt c.s.toNat) T)
def fAt (cnt : Nat → Nat) (fit : Cm → Nat) (T : Nat) (cs : List Cm) (i : Nat) : List Fl := match cs[i]? with | some c => fC cnt fit T i c | none => []
def knOf (cs : List Cm) (s : Int) : Bool := cs.any fun c => c.s == s
def fS (cnt : Nat → Nat) (kn : Int → Bool) (s : Nat) : List Fl := if 0 < s ∧ 0 < cnt s ∧ kn (s : Int) = false then [⟨-1, (s : Int), 4, (cnt s : Int)⟩] else []
def checkL (cnt : Nat → Nat) (fit : Cm → Nat) (T : Nat) (cs : List Cm) : List Fl := listTo (fAt cnt fit T cs) cs.length ++ listTo (fS cnt (knOf cs)) 10
theorem fC_len (cnt : Nat → Nat) (fit : Cm → Nat) (T i : Nat) (c : Cm) : (fC cnt fit T i c).length ≤ 3 := by
  unfold fC f1 f2 f3
  split <;> split <;> split <;> simp
theorem fAt_len (cnt : Nat → Nat) (fit : Cm → Nat) (T : Nat) (cs : List Cm) (i : Nat) : (fAt cnt fit T cs i).length ≤ 3 := by
  unfold fAt
  split
  · exact fC_len _ _ _ _ _
  · exact Nat.zero_le _
theorem to_len {α : Type} (h : Nat → List α) (B : Nat) (hh : ∀ i, (h i).length ≤ B) : ∀ k, (listTo h k).length ≤ k * B
  | 0 => Nat.zero_le _
  | k + 1 => by
    show (listTo h k ++ h k).length ≤ _
    rw [List.length_append, Nat.succ_mul]
    exact Nat.add_le_add (to_len h B hh k) (hh k)
theorem fS_len (cnt : Nat → Nat) (kn : Int → Bool) (i : Nat) : (fS cnt kn i).length ≤ 1 := by
  unfold fS; split <;> simp
theorem kn_succ {cs : List Cm} {k : Nat} {c : Cm} (h : cs[k]? = some c) : (fun t => knOf (cs.take k) t || t == c.s) = knOf (cs.take (k + 1)) := by
  funext t
  unfold knOf
  rw [take_snoc h, List.any_append]
  simp only [List.any_cons, List.any_nil, Bool.or_false]
  congr 1
  exact Bool.eq_iff_iff.2 ⟨fun h => by simp at h ⊢; omega, fun h => by simp at h ⊢; omega⟩

theorem AM.same {w w' : World} {bm n : Nat} {kn : Int → Bool} (h : AM w bm n kn) (e : w'.heap[bm]? = w.heap[bm]?) : AM w' bm n kn := by
  obtain ⟨D, ⟨es, clock, h1, h2⟩, h3⟩ := h
  exact ⟨D, ⟨es, clock, e.trans h1, h2⟩, h3⟩
/-- between two steps of Check -/
structure KW (w0 : World) (B b1 bm : Nat) (cnt : Nat → Nat) (n : Nat) (kn : Int → Bool) (v : Value) (fs : List Fl) (W : World) : Prop where
  below : Below w0.heap.size w0 W
  row : Row W b1 3 (tab 10 cnt)
  map : AM W bm n kn
  out : OwnF W B v fs
  l0 : w0.heap.size ≤ b1
  l1 : b1 < bm
  l2 : bm < B
  l3 : B ≤ W.heap.size
theorem KW.later {w0 : World} {B b1 bm : Nat} {cnt : Nat → Nat} {n : Nat} {kn : Int → Bool} {v : Value} {fs : List Fl} {W W' : World} (h : KW w0 B b1 bm cnt n kn v fs W) (hb : Below W.heap.size W W') : KW w0 B b1 bm cnt n kn v fs W' :=
  ⟨h.below.trans (hb.mono h.below.size), h.row.later hb, h.map.later hb, h.out.below hb, h.l0, h.l1, h.l2, Nat.le_trans h.l3 hb.size⟩
theorem KW.app {w0 : World} {B b1 bm : Nat} {cnt : Nat → Nat} {n : Nat} {kn : Int → Bool} {v v' : Value} {fs fs' : List Fl} {W W' : World} (h : KW w0 B b1 bm cnt n kn v fs W) (h1 : OwnF W' B v' fs') (hb : Below B W W') : KW w0 B b1 bm cnt n kn v' fs' W' := by
  have l0 := h.l0
  have l1 := h.l1
  have l2 := h.l2
  exact ⟨h.below.trans (hb.mono (by omega)), h.row.below (by omega) hb, h.map.same (hb.block bm l2), h1, l0, l1, l2, Nat.le_trans h.l3 hb.size⟩
theorem KW.upd {w0 : World} {B b1 bm : Nat} {cnt : Nat → Nat} {n m : Nat} {kn kn' : Int → Bool} {v : Value} {fs : List Fl} {W W' : World} (h : KW w0 B b1 bm cnt n kn v fs W) (h1 : AM W' bm m kn') (hg : W.grownBy W' (some bm)) : KW w0 B b1 bm cnt m kn' v fs W' := by
  have l0 := h.l0
  have l1 := h.l1
  have l2 := h.l2
  refine ⟨h.below.grown hg h.below.size (fun k hk => by simp at hk; omega), h.row.same (hg.block b1 h.row.lt (by simp; omega)), h1, h.out.kept hg (.inl fun e => ?_), l0, l1, l2, Nat.le_trans h.l3 hg.size⟩
  have := (World.ownsRow.lt h.out.2 bm e.symm).1
  omega
/-- .. with the claim that is looked at, in a block of its own -/
structure KC (w0 : World) (B b1 bm : Nat) (cnt : Nat → Nat) (n : Nat) (kn : Int → Bool) (bc : Nat) (c : Array Value) (v : Value) (fs : List Fl) (W : World) : Prop where
  kw : KW w0 B b1 bm cnt n kn v fs W
  clm : Row W bc 29 c
  ne : ∀ g, v.ownBlock = some g → g ≠ bc
  lc : B ≤ bc
theorem KC.later {w0 : World} {B b1 bm : Nat} {cnt : Nat → Nat} {n : Nat} {kn : Int → Bool} {bc : Nat} {c : Array Value} {v : Value} {fs : List Fl} {W W' : World} (h : KC w0 B b1 bm cnt n kn bc c v fs W) (hb : Below W.heap.size W W') : KC w0 B b1 bm cnt n kn bc c v fs W' :=
  ⟨h.kw.later hb, h.clm.later hb, h.ne, h.lc⟩
theorem KC.upd {w0 : World} {B b1 bm : Nat} {cnt : Nat → Nat} {n m : Nat} {kn kn' : Int → Bool} {bc : Nat} {c : Array Value} {v : Value} {fs : List Fl} {W W' : World} (h : KC w0 B b1 bm cnt n kn bc c v fs W) (h1 : AM W' bm m kn') (hg : W.grownBy W' (some bm)) : KC w0 B b1 bm cnt m kn' bc c v fs W' :=
  ⟨h.kw.upd h1 hg, h.clm.same (hg.block bc h.clm.lt (by have := h.lc; have := h.kw.l2; simp; omega)), h.ne, h.lc⟩
theorem KC.app {w0 : World} {B b1 bm : Nat} {cnt : Nat → Nat} {n : Nat} {kn : Int → Bool} {bc : Nat} {c : Array Value} {v v' : Value} {fs fs' : List Fl} {W W' : World} (h : KC w0 B b1 bm cnt n kn bc c v fs W) (h1 : OwnF W' B v' fs') (hb : Below B W W') (hg : W.grownBy W' v.ownBlock) (hl : v'.ownBlock = v.ownBlock ∨ ∃ g, v'.ownBlock = some g ∧ W.heap.size ≤ g) : KC w0 B b1 bm cnt n kn bc c v' fs' W' := by
  refine ⟨h.kw.app h1 hb, h.clm.same (hg.block bc h.clm.lt (fun e => h.ne bc e.symm rfl)), fun g hg' => ?_, h.lc⟩
  rcases hl with e | ⟨g', e, hle⟩
  · exact h.ne g (e ▸ hg')
  · rw [e] at hg'
    have := h.clm.lt
    simp at hg'
    omega
end Go.Proofs.Ytikdkhiehfccpaa
