/- A play that lies in memory, as a law holds it: its methods in one form, over this seat's program. -/
import Derived.Test.YtginbellakkliaaDoorPyL
import Derived.Test.YtginbellakkliaaDoorPyE
import Derived.Test.YtginbellakkliaaDoorPyF
namespace Go.Proofs.YtginbellakkliaaDoor
open Go.RowKit Go.Shelf Go.Sort

/-- block B holds play p; the blocks in G are none of its own -/
structure InP (W : World) (B : Nat) (p : Ply) (G : Nat → Prop) : Prop where
  ok : p.ok
  mem : ∃ vs vb, PlyAt W B 0 p vs vb ∧ (∀ g, vs.ownBlock = some g → ¬ G g) ∧ (∀ g, vb.ownBlock = some g → ¬ G g)
  nb : ¬ G B
  lt : ∀ g, G g → g < W.heap.size
  tab : Tab W
  tg : G 0
theorem InP.at {W : World} {B : Nat} {p : Ply} {G : Nat → Prop} (h : InP W B p G) : B < W.heap.size := by
  obtain ⟨vs, vb, h1, _⟩ := h.mem; exact h1.row.lt
theorem InP.below {W W' : World} {B : Nat} {p : Ply} {G : Nat → Prop} (h : InP W B p G) (hb : Below W.heap.size W W') : InP W' B p G := by
  obtain ⟨vs, vb, h1, h2, h3⟩ := h.mem
  exact ⟨h.ok, ⟨vs, vb, h1.below hb, h2, h3⟩, h.nb, fun g hg => Nat.lt_of_lt_of_le (h.lt g hg) hb.size, h.tab.below h.tab.pos hb, h.tg⟩
/-- a part of the foreign blocks, and new ones -/
theorem InP.more {W W' : World} {B : Nat} {p : Ply} {G G' : Nat → Prop} (h : InP W B p G) (hb : Below W.heap.size W W') (hg : ∀ g, G' g → G g ∨ (W.heap.size ≤ g ∧ g < W'.heap.size)) (ht : G' 0) : InP W' B p G' := by
  obtain ⟨vs, vb, h1, h2, h3⟩ := h.mem
  have hv : ∀ {α : Type} {enc : α → List Value} {m : Nat} {T : TypeId} {v : Value} {l : List α}, Owns enc m T W 0 v l → ∀ g, v.ownBlock = some g → g < W.heap.size := by
    intro α enc m T v l ho g e
    rcases ho.2.2 with ⟨rfl, _⟩ | ⟨g', cap, cur, rfl, _, h2, _⟩
    · simp [Value.ownBlock] at e
    · obtain rfl : g' = g := by simpa [Value.ownBlock] using e
      exact (Array.getElem?_eq_some_iff.1 h2).1
  refine ⟨h.ok, ⟨vs, vb, h1.below hb, fun g e hg' => ?_, fun g e hg' => ?_⟩, fun hB => ?_, fun g hg' => ?_, h.tab.below h.tab.pos hb, ht⟩
  · rcases hg g hg' with h4 | h4
    · exact h2 g e h4
    · have := hv h1.ss g e; omega
  · rcases hg g hg' with h4 | h4
    · exact h3 g e h4
    · have := hv h1.bs g e; omega
  · rcases hg B hB with h4 | h4
    · exact h.nb h4
    · have := h1.row.lt; omega
  · rcases hg g hg' with h4 | h4
    · exact Nat.lt_of_lt_of_le (h.lt g h4) hb.size
    · exact h4.2
/-- what a law holds of its own is kept too -/
theorem InP.kept {W W' : World} {B : Nat} {p : Ply} {G S : Nat → Prop} (h : InP W B p G) (hk : Kept S W W') (hS : ∀ b, S b ∨ G b) (hGS : ∀ g, G g → g < W'.heap.size) (htab : Tab W') : InP W' B p G := by
  obtain ⟨vs, vb, h1, h2, h3⟩ := h.mem
  have hSB : S B := (hS B).resolve_right h.nb
  have h4 : ∀ {α : Type} {enc : α → List Value} {m : Nat} {T : TypeId} {v : Value} {l : List α}, Owns enc m T W 0 v l → (∀ g, v.ownBlock = some g → ¬ G g) → Owns enc m T W' 0 v l := by
    intro α enc m T v l ho hn
    refine ⟨ho.1, ho.2.1, ?_⟩
    rcases ho.2.2 with ⟨rfl, q⟩ | ⟨g', cap, cur, rfl, q1, q2, q3⟩
    · exact .inl ⟨rfl, q⟩
    · refine .inr ⟨g', cap, cur, rfl, q1, ?_, q3⟩
      rw [hk.block g' ((hS g').resolve_right (hn g' (by simp [Value.ownBlock]))) (Array.getElem?_eq_some_iff.1 q2).1]
      exact q2
  exact ⟨h.ok, ⟨vs, vb, ⟨h1.row.kept hSB hk, h4 h1.ss h2, h4 h1.bs h3, h1.ns, h1.nb, h1.sb⟩, h2, h3⟩, h.nb, hGS, htab, h.tg⟩
theorem tab_kept {W W' : World} {G : Nat → Prop} (h : Tab W) (hg : G 0) (hk : Kept G W W') : Tab W' := fun j hj => (hk.cell (p := ⟨0, j, none⟩) hg h.pos).trans (h j hj)

theorem in_turn {W : World} {B : Nat} {p : Ply} {G : Nat → Prop} (h : InP W B p G) :
    Calls Tryd.prog 15 #[.pointer (some ⟨B, 0, none⟩)] W fun e W' => e = .returned (.tuple #[.int .u8 (p.turnV.1 : Int), .int .i64 (p.turnV.2 : Int)]) ∧ Below W.heap.size W W' := by
  obtain ⟨vs, vb, h1, _⟩ := h.mem
  exact ply_turn h.ok h1
theorem in_chooser {W : World} {B : Nat} {p : Ply} {G : Nat → Prop} (h : InP W B p G) :
    Calls Tryd.prog 28 #[.pointer (some ⟨B, 0, none⟩)] W fun e W' => e = .returned (.tuple #[.int .u8 (p.chooserV.1 : Int), .int .i64 (p.chooserV.2 : Int)]) ∧ Below W.heap.size W W' := by
  obtain ⟨vs, vb, h1, _⟩ := h.mem
  exact ply_chooser h.ok h1
theorem in_legal {W : World} {B : Nat} {p : Ply} {G : Nat → Prop} (h : InP W B p G) :
    Calls Tryd.prog 14 #[.pointer (some ⟨B, 0, none⟩)] W fun e W' => e = .returned (.int .u64 (p.st.legal : Int)) ∧ Below W.heap.size W W' := by
  obtain ⟨vs, vb, h1, _⟩ := h.mem
  exact ply_legal h.ok h1 h.tab
theorem in_hand {W : World} {B : Nat} {p : Ply} {G : Nat → Prop} (h : InP W B p G) (s : Nat) (hs : s < 256) :
    Calls Tryd.prog 22 #[.pointer (some ⟨B, 0, none⟩), .int .u8 (s : Int)] W fun e W' => e = .returned (.int .u64 (p.handV s : Int)) ∧ W = W' := by
  obtain ⟨vs, vb, h1, _⟩ := h.mem
  exact ply_hand h.ok h1 s hs
theorem in_seen {W : World} {B : Nat} {p : Ply} {G : Nat → Prop} (h : InP W B p G) (s : Nat) (hs : s ≤ 3) :
    Calls Tryd.prog 21 #[.pointer (some ⟨B, 0, none⟩), .int .u8 (s : Int)] W fun e W' =>
      e = .returned (.tuple #[.agg (arr4 (p.seenH s)), .int .u64 (hidV p.st.h (p.seenH s) : Int)]) ∧ Below W.heap.size W W' := by
  obtain ⟨vs, vb, h1, _⟩ := h.mem
  exact ply_seen h.ok h1 hs
theorem in_tricks {W : World} {B : Nat} {p : Ply} {G : Nat → Prop} (h : InP W B p G) :
    Calls Tryd.prog 33 #[.pointer (some ⟨B, 0, none⟩)] W fun e W' => e = .returned (.tuple #[.int .i64 (tkWon p.tks 0 : Int), .int .i64 (tkWon p.tks 1 : Int)]) ∧ Below W.heap.size W W' := by
  obtain ⟨vs, vb, h1, _⟩ := h.mem
  exact ply_Tricks h.ok h1
theorem in_result {W : World} {B : Nat} {p : Ply} {G : Nat → Prop} (h : InP W B p G) :
    Calls Tryd.prog 19 #[.pointer (some ⟨B, 0, none⟩)] W fun e W' => e = .returned (.tuple #[.int .i64 (p.resV.1 : Int), .int .i64 (p.resV.2 : Int)]) ∧ Below W.heap.size W W' := by
  obtain ⟨vs, vb, h1, _⟩ := h.mem
  exact ply_result h.ok h1
/-- after a method that writes -/
theorem InP.next {W W' : World} {B : Nat} {p q : Ply} {G : Nat → Prop} {vs vb : Value} (h : InP W B p G) (h2 : ∀ g, vs.ownBlock = some g → ¬ G g) (h3 : ∀ g, vb.ownBlock = some g → ¬ G g) (hq : q.ok)
    (hp : ∃ vs' vb', PlyAt W' B 0 q vs' vb' ∧ Kept (Ply.S B vs vb) W W' ∧ NewB W vs vs' ∧ NewB W vb vb') : InP W' B q G ∧ Kept G W W' := by
  obtain ⟨vs', vb', h4, h5, h6, h7⟩ := hp
  have hk : Kept G W W' := h5.mono fun b hb => ⟨fun e => h.nb (e ▸ hb), fun e => h2 b e.symm hb, fun e => h3 b e.symm hb⟩
  have hn : ∀ {v v' : Value}, NewB W v v' → (∀ g, v.ownBlock = some g → ¬ G g) → ∀ g, v'.ownBlock = some g → ¬ G g := by
    intro v v' hv hg g e hG
    rcases hv with h8 | h8 | ⟨g', h8, h9⟩
    · exact hg g (h8 ▸ e) hG
    · rw [h8] at e; cases e
    · rw [h8] at e; injection e with e; have := h.lt g hG; omega
  exact ⟨⟨hq, ⟨vs', vb', h4, hn h6 h2, hn h7 h3⟩, h.nb, fun g hg => Nat.lt_of_lt_of_le (h.lt g hg) hk.size, tab_kept h.tab h.tg hk, h.tg⟩, hk⟩
theorem in_do {W : World} {B : Nat} {p : Ply} {G : Nat → Prop} (h : InP W B p G) (c : Nat) (hc : c < 256) (hq : (p.doV c).2.ok) :
    Calls Tryd.prog 18 #[.pointer (some ⟨B, 0, none⟩), .int .u8 (c : Int)] W fun e W' => e = .returned (.int .i64 ((p.doV c).1 : Int)) ∧ InP W' B (p.doV c).2 G ∧ Kept G W W' := by
  obtain ⟨vs, vb, h1, h2, h3⟩ := h.mem
  exact (ply_do h.ok h1 h.tab hc (Nat.zero_le _)).mono fun e W' ⟨he, hp⟩ => ⟨he, h.next h2 h3 hq hp⟩
theorem in_undo {W : World} {B : Nat} {p : Ply} {G : Nat → Prop} (h : InP W B p G) (hq : p.undoV.2.ok) :
    Calls Tryd.prog 25 #[.pointer (some ⟨B, 0, none⟩)] W fun e W' => e = .returned (.int .i64 (p.undoV.1 : Int)) ∧ InP W' B p.undoV.2 G ∧ Kept G W W' := by
  obtain ⟨vs, vb, h1, h2, h3⟩ := h.mem
  exact (ply_undo h.ok h1 (Nat.zero_le _)).mono fun e W' ⟨he, hp⟩ => ⟨he, h.next h2 h3 hq hp⟩
theorem newP_ok {d : Nat → Nat} {lv dn rk dc : Nat} (hd : ∀ i, W64 (d i)) (h : newE d lv dn rk dc = 0) : (newP d lv dn rk dc).ok := by
  have h1 : (leadV lv dn rk dc).2 = 0 := by
    unfold newE at h; split at h
    · assumption
    · exact h
  obtain ⟨_, h2, h3, h4, h5, h6⟩ := leadV_ok h1
  exact ⟨⟨hd, Nat.mod_lt _ (by decide), (by show 0 < 4; decide), fun _ => (by show 0 < 52; decide)⟩, ⟨h2, h3⟩, h4, h5, h6, (fun x hx => by cases hx), (fun x hx => by cases hx), by show 0 + 0 ≤ 60000; decide⟩
theorem in_new (d : Nat → Nat) (lv dn rk dc : Nat) (hd : ∀ i, W64 (d i)) (hok : newE d lv dn rk dc = 0) (G : Nat → Prop) (W : World) (hG : ∀ g, G g → g < W.heap.size) (hT : Tab W) (ht : G 0) :
    Calls Tryd.prog 13 #[.agg #[.int .u64 (d 0 : Int), .int .u64 (d 1 : Int), .int .u64 (d 2 : Int), .int .u64 (d 3 : Int)], .agg #[.int .u8 (lv : Int), .int .u8 (dn : Int), .int .u8 (rk : Int), .int .u8 (dc : Int)]] W fun e W' =>
      ∃ B, e = .returned (.tuple #[.pointer (some ⟨B, 0, none⟩), .int .i64 0]) ∧ InP W' B (newP d lv dn rk dc) G ∧ Below W.heap.size W W' := by
  refine (play_new d lv dn rk dc (fun i _ => hd i) hok W).mono ?_
  rintro e W' ⟨B, he, hB, hp, hb⟩
  exact ⟨B, he, ⟨newP_ok hd hok, ⟨_, _, hp 0, fun g e => by simp [Value.ownBlock] at e, fun g e => by simp [Value.ownBlock] at e⟩, fun h => by have := hG B h; omega, fun g hg => Nat.lt_of_lt_of_le (hG g hg) hb.size, hT.below hT.pos hb, ht⟩, hb⟩
end Go.Proofs.YtginbellakkliaaDoor
