/- PyL, PyM, PyN in one text. -/
import Derived.Test.YtginbellakkliaaDoorPyK
import Derived.Test.YtginbellakkliaaDoorMPyd
import Derived.Test.YtginbellakkliaaDoorPyF

/- The contract of play.New over this seat's program. -/
namespace Go.Proofs.YtginbellakkliaaDoor
open Go.RowKit Go.Shelf Go.Sort
attribute [local go_sem] Oper.semAt_some

/-- the play that New makes -/
def newP (d : Nat → Nat) (lv dn rk dc : Nat) : Ply := ⟨⟨d, (dc + 1) % 4, 0, fun _ => 0⟩, lv, dn, rk, dc, [], []⟩
/-- the error of New -/
def newE (d : Nat → Nat) (lv dn rk dc : Nat) : Nat := if (leadV lv dn rk dc).2 = 0 then (if dealOk d then 0 else 120) else (leadV lv dn rk dc).2
theorem leadV_ok {lv dn rk dc : Nat} (h : (leadV lv dn rk dc).2 = 0) : leadV lv dn rk dc = ((dc + 1) % 4, 0) ∧ 1 ≤ lv ∧ lv ≤ 7 ∧ dn ≤ 4 ∧ rk ≤ 2 ∧ dc ≤ 3 := by
  unfold leadV at *
  split at h
  · cases h
  · rename_i h0
    split at h
    · rename_i h1
      rw [if_neg h0, if_pos h1]
      exact ⟨rfl, by omega, h1.1, h1.2.1, h1.2.2.1, h1.2.2.2⟩
    · cases h
/-- the two boxes of New -/
abbrev newW (d : Nat → Nat) (lv dn rk dc : Nat) (w : World) : World := (w.alloc (.cells #[.int .u64 (d 0 : Int), .int .u64 (d 1 : Int), .int .u64 (d 2 : Int), .int .u64 (d 3 : Int)] 26)).alloc (.cells #[.int .u8 (lv : Int), .int .u8 (dn : Int), .int .u8 (rk : Int), .int .u8 (dc : Int)] 28)
theorem newW_below (d : Nat → Nat) (lv dn rk dc : Nat) (w : World) : Below w.heap.size w (newW d lv dn rk dc w) := ((Below.refl _ _).alloc (Nat.le_refl _) _).alloc (by simp) _
theorem newW_rows (d : Nat → Nat) (lv dn rk dc : Nat) (w : World) : Row (newW d lv dn rk dc w) w.heap.size 26 #[.int .u64 (d 0 : Int), .int .u64 (d 1 : Int), .int .u64 (d 2 : Int), .int .u64 (d 3 : Int)] ∧
    Row (newW d lv dn rk dc w) (w.heap.size + 1) 28 #[.int .u8 (lv : Int), .int .u8 (dn : Int), .int .u8 (rk : Int), .int .u8 (dc : Int)] := by
  refine ⟨(Row.new w _ _).alloc _, ?_⟩
  have := Row.new (w.alloc (.cells #[.int .u64 (d 0 : Int), .int .u64 (d 1 : Int), .int .u64 (d 2 : Int), .int .u64 (d 3 : Int)] 26)) 28 #[.int .u8 (lv : Int), .int .u8 (dn : Int), .int .u8 (rk : Int), .int .u8 (dc : Int)]
  rwa [World.size_alloc] at this
theorem play_new_no (d : Nat → Nat) (lv dn rk dc : Nat) (hd : ∀ i, i < 4 → W64 (d i)) (hne : newE d lv dn rk dc ≠ 0) (w : World) :
    Calls Tryd.prog 13 #[.agg #[.int .u64 (d 0 : Int), .int .u64 (d 1 : Int), .int .u64 (d 2 : Int), .int .u64 (d 3 : Int)], .agg #[.int .u8 (lv : Int), .int .u8 (dn : Int), .int .u8 (rk : Int), .int .u8 (dc : Int)]] w fun e w' =>
      e = .returned (.tuple #[.pointer none, .int .i64 (newE d lv dn rk dc : Int)]) ∧ Below w.heap.size w w' := by
  have hb0 : ∀ o o', Below w.heap.size w ((w.alloc o).alloc o') := fun o o' => ((Below.refl _ _).alloc (Nat.le_refl _) o).alloc (by simp) o'
  have HL := Lib.hid (auction_leader lv dn rk dc)
  obtain ⟨hR0, hR1⟩ := newW_rows d lv dn rk dc w
  have hz : (newW d lv dn rk dc w).heap.size = w.heap.size + 2 := by simp
  have HP := Lib.hid (play_playable d hd)
  by_cases h1 : (leadV lv dn rk dc).2 = 0
  · unfold newE at *
    rw [if_pos h1] at *
    have h2 : dealOk d = false := by
      cases h : dealOk d
      · rfl
      · rw [h] at hne; exact absurd rfl hne
    rw [h2] at HP ⊢
    rw [(leadV_ok h1).1] at HL
    obtain ⟨ld, hld⟩ : ∃ ld, ld = (dc + 1) % 4 := ⟨_, rfl⟩
    rw [← hld] at HL
    simp only [Int.cast_ofNat_Int] at HL
    clear hld h1 h2 hne
    go_enter Tryd.func13, Tryd.ntmps13
    go_wp2_with (first
      | (go_at_call 39; refine (HL.out _).mono ?_; rintro e w' ⟨rfl, hb1⟩; have hs1 := hb1.size; have S0 := hR0.below hR0.lt hb1; have c0 := S0.cell 0; have c1 := S0.cell 1; have c2 := S0.cell 2; have c3 := S0.cell 3; simp at c0 c1 c2 c3)
      | (go_at_call 40; refine (HP.out _).mono ?_; rintro e w'' ⟨rfl, hb2⟩))
    go_ret2
    exact ⟨rfl, ((hb0 _ _).trans (hb1.mono (by simp; omega))).trans (hb2.mono (by simp at hs1; omega))⟩
  · unfold newE
    rw [if_neg h1]
    have hq : (((leadV lv dn rk dc).2 : Int) != 0) = true := by rw [bne_iff_ne]; omega
    generalize leadV lv dn rk dc = q at *
    go_enter Tryd.func13, Tryd.ntmps13
    go_wp2_with (first
      | (go_at_call 39; refine (HL.out _).mono ?_; rintro e w' ⟨rfl, hb1⟩))
    go_ret2
    exact ⟨rfl, (hb0 _ _).trans (hb1.mono (by simp; omega))⟩
theorem play_new (d : Nat → Nat) (lv dn rk dc : Nat) (hd : ∀ i, i < 4 → W64 (d i)) (hok : newE d lv dn rk dc = 0) (w : World) :
    Calls Tryd.prog 13 #[.agg #[.int .u64 (d 0 : Int), .int .u64 (d 1 : Int), .int .u64 (d 2 : Int), .int .u64 (d 3 : Int)], .agg #[.int .u8 (lv : Int), .int .u8 (dn : Int), .int .u8 (rk : Int), .int .u8 (dc : Int)]] w fun e w' =>
      ∃ B, e = .returned (.tuple #[.pointer (some ⟨B, 0, none⟩), .int .i64 0]) ∧ w.heap.size ≤ B ∧ (∀ base, PlyAt w' B base (newP d lv dn rk dc) (.slice none 0 0) (.slice none 0 0)) ∧ Below w.heap.size w w' := by
  have hb0 : ∀ o o', Below w.heap.size w ((w.alloc o).alloc o') := fun o o' => ((Below.refl _ _).alloc (Nat.le_refl _) o).alloc (by simp) o'
  have HL := Lib.hid (auction_leader lv dn rk dc)
  obtain ⟨hR0, hR1⟩ := newW_rows d lv dn rk dc w
  have hz : (newW d lv dn rk dc w).heap.size = w.heap.size + 2 := by simp
  have HP := Lib.hid (play_playable d hd)
  have h1 : (leadV lv dn rk dc).2 = 0 := by
    unfold newE at hok; split at hok
    · assumption
    · exact hok
  unfold newE at hok
  rw [if_pos h1] at hok
  have h2 : dealOk d = true := by
    cases h : dealOk d
    · rw [h] at hok; cases hok
    · rfl
  rw [h2] at HP
  rw [(leadV_ok h1).1] at HL
  unfold newP
  obtain ⟨ld, hld⟩ : ∃ ld, ld = (dc + 1) % 4 := ⟨_, rfl⟩
  rw [← hld] at HL ⊢
  simp only [Int.cast_ofNat_Int] at HL
  clear hld h1 h2 hok
  go_enter Tryd.func13, Tryd.ntmps13
  go_upto_region 7 with (first
    | (go_at_call 39; refine (HL.out _).mono ?_; rintro e w1 ⟨rfl, hb1⟩; have hs1 := hb1.size; have S0 := hR0.below hR0.lt hb1; have S1 := hR1.below hR1.lt hb1; have c0 := S0.cell 0; have c1 := S0.cell 1; have c2 := S0.cell 2; have c3 := S0.cell 3; simp at c0 c1 c2 c3)
    | (go_at_call 40; refine (HP.out _).mono ?_; rintro e w2 ⟨rfl, hb2⟩; have hs2 := hb2.size; have T0 := S0.below S0.lt hb2; have T1 := S1.below S1.lt hb2; clear c0 c1 c2 c3; have c0 := T0.cell 0; have c1 := T0.cell 1; have c2 := T0.cell 2; have c3 := T0.cell 3; have d0 := T1.cell 0; have d1 := T1.cell 1; have d2 := T1.cell 2; have d3 := T1.cell 3; simp at c0 c1 c2 c3 d0 d1 d2 d3))
  have N := Row.new w2 85 #[.int .u64 0, .int .u64 0, .int .u64 0, .int .u64 0, .int .u8 0, .int .u8 0, .int .u8 0, .int .u8 0, .int .u8 0, .int .u8 0, .int .u8 (lv : Int), .int .u8 (dn : Int), .int .u8 (rk : Int), .int .u8 (dc : Int), .slice none 0 0, .slice none 0 0]
  have U0 := T0.alloc (.cells #[.int .u64 0, .int .u64 0, .int .u64 0, .int .u64 0, .int .u8 0, .int .u8 0, .int .u8 0, .int .u8 0, .int .u8 0, .int .u8 0, .int .u8 (lv : Int), .int .u8 (dn : Int), .int .u8 (rk : Int), .int .u8 (dc : Int), .slice none 0 0, .slice none 0 0] 85)
  have hbw : Below w.heap.size w w2 := ((newW_below d lv dn rk dc w).trans (hb1.mono (by rw [hz]; omega))).trans (hb2.mono (by rw [hz] at hs1; omega))
  have hbx : Below w.heap.size w (w2.alloc (.cells #[.int .u64 0, .int .u64 0, .int .u64 0, .int .u64 0, .int .u8 0, .int .u8 0, .int .u8 0, .int .u8 0, .int .u8 0, .int .u8 0, .int .u8 (lv : Int), .int .u8 (dn : Int), .int .u8 (rk : Int), .int .u8 (dc : Int), .slice none 0 0, .slice none 0 0] 85)) := hbw.alloc hbw.size _
  generalize (w2.alloc (.cells #[.int .u64 0, .int .u64 0, .int .u64 0, .int .u64 0, .int .u8 0, .int .u8 0, .int .u8 0, .int .u8 0, .int .u8 0, .int .u8 0, .int .u8 (lv : Int), .int .u8 (dn : Int), .int .u8 (rk : Int), .int .u8 (dc : Int), .slice none 0 0, .slice none 0 0] 85)) = w3 at *
  clear c0 c1 c2 c3 d0 d1 d2 d3
  have c0 := U0.cell 0
  have c1 := U0.cell 1
  have c2 := U0.cell 2
  have c3 := U0.cell 3
  have n0 := N.cell 0
  have n1 := N.cell 1
  have n2 := N.cell 2
  have n3 := N.cell 3
  have n4 := N.cell 4
  simp only [List.getElem?_toArray, List.getElem?_cons_zero, List.getElem?_cons_succ] at n0 n1 n2 n3 n4
  have f0 := N.frozen 0
  have f1 := N.frozen 1
  have f2 := N.frozen 2
  have f3 := N.frozen 3
  have f4 := N.frozen 4
  simp at c0 c1 c2 c3
  go_wp2_with fail
  go_ret2
  have hle : w.heap.size ≤ w2.heap.size := hbw.size
  have N5 := ((((N.set 0 (.int .u64 (d 0 : Int))).set 1 (.int .u64 (d 1 : Int))).set 2 (.int .u64 (d 2 : Int))).set 3 (.int .u64 (d 3 : Int))).set 4 (.int .u8 (ld : Int))
  refine ⟨w2.heap.size, rfl, hle, fun base => ⟨N5, Owns.nil stp_len _ _, Owns.nil encU_len _ _, by simp [Value.ownBlock], by simp [Value.ownBlock], by simp [Value.ownBlock]⟩, ?_⟩
  exact ((((hbx.setCell hle _).setCell hle _).setCell hle _).setCell hle _).setCell hle _
end Go.Proofs.YtginbellakkliaaDoor

/- A play that lies in memory, as a law holds it: its methods in one form, over this seat's program. -/
namespace Go.Proofs.YtginbellakkliaaDoor
open Go.RowKit Go.Shelf Go.Sort

/-- block B holds play p; the blocks in G are none of its own -/
structure InP (W : World) (B : Nat) (p : Ply) (G : Nat → Prop) : Prop where
  ok : p.ok
  mem : ∃ vs vb, PlyAt W B 0 p vs vb ∧ (∀ g, vs.ownBlock = some g → ¬ G g) ∧ (∀ g, vb.ownBlock = some g → ¬ G g)
  nb : ¬ G B
  lt : ∀ g, G g → g < W.heap.size
  tab : Tab W
  tg : G 0
theorem InP.at {W : World} {B : Nat} {p : Ply} {G : Nat → Prop} (h : InP W B p G) : B < W.heap.size := by
  obtain ⟨vs, vb, h1, _⟩ := h.mem; exact h1.row.lt
theorem InP.below {W W' : World} {B : Nat} {p : Ply} {G : Nat → Prop} (h : InP W B p G) (hb : Below W.heap.size W W') : InP W' B p G := by
  obtain ⟨vs, vb, h1, h2, h3⟩ := h.mem
  exact ⟨h.ok, ⟨vs, vb, h1.below hb, h2, h3⟩, h.nb, fun g hg => Nat.lt_of_lt_of_le (h.lt g hg) hb.size, h.tab.below h.tab.pos hb, h.tg⟩
/-- a part of the foreign blocks, and new ones -/
theorem InP.more {W W' : World} {B : Nat} {p : Ply} {G G' : Nat → Prop} (h : InP W B p G) (hb : Below W.heap.size W W') (hg : ∀ g, G' g → G g ∨ (W.heap.size ≤ g ∧ g < W'.heap.size)) (ht : G' 0) : InP W' B p G' := by
  obtain ⟨vs, vb, h1, h2, h3⟩ := h.mem
  have hv : ∀ {α : Type} {enc : α → List Value} {m : Nat} {T : TypeId} {v : Value} {l : List α}, Owns enc m T W 0 v l → ∀ g, v.ownBlock = some g → g < W.heap.size := by
    intro α enc m T v l ho g e
    rcases ho.2.2 with ⟨rfl, _⟩ | ⟨g', cap, cur, rfl, _, h2, _⟩
    · simp [Value.ownBlock] at e
    · obtain rfl : g' = g := by simpa [Value.ownBlock] using e
      exact (Array.getElem?_eq_some_iff.1 h2).1
  refine ⟨h.ok, ⟨vs, vb, h1.below hb, fun g e hg' => ?_, fun g e hg' => ?_⟩, fun hB => ?_, fun g hg' => ?_, h.tab.below h.tab.pos hb, ht⟩
  · rcases hg g hg' with h4 | h4
    · exact h2 g e h4
    · have := hv h1.ss g e; omega
  · rcases hg g hg' with h4 | h4
    · exact h3 g e h4
    · have := hv h1.bs g e; omega
  · rcases hg B hB with h4 | h4
    · exact h.nb h4
    · have := h1.row.lt; omega
  · rcases hg g hg' with h4 | h4
    · exact Nat.lt_of_lt_of_le (h.lt g h4) hb.size
    · exact h4.2
/-- what a law holds of its own is kept too -/
theorem InP.kept {W W' : World} {B : Nat} {p : Ply} {G S : Nat → Prop} (h : InP W B p G) (hk : Kept S W W') (hS : ∀ b, S b ∨ G b) (hGS : ∀ g, G g → g < W'.heap.size) (htab : Tab W') : InP W' B p G := by
  obtain ⟨vs, vb, h1, h2, h3⟩ := h.mem
  have hSB : S B := (hS B).resolve_right h.nb
  have h4 : ∀ {α : Type} {enc : α → List Value} {m : Nat} {T : TypeId} {v : Value} {l : List α}, Owns enc m T W 0 v l → (∀ g, v.ownBlock = some g → ¬ G g) → Owns enc m T W' 0 v l := by
    intro α enc m T v l ho hn
    refine ⟨ho.1, ho.2.1, ?_⟩
    rcases ho.2.2 with ⟨rfl, q⟩ | ⟨g', cap, cur, rfl, q1, q2, q3⟩
    · exact .inl ⟨rfl, q⟩
    · refine .inr ⟨g', cap, cur, rfl, q1, ?_, q3⟩
      rw [hk.block g' ((hS g').resolve_right (hn g' (by simp [Value.ownBlock]))) (Array.getElem?_eq_some_iff.1 q2).1]
      exact q2
  exact ⟨h.ok, ⟨vs, vb, ⟨h1.row.kept hSB hk, h4 h1.ss h2, h4 h1.bs h3, h1.ns, h1.nb, h1.sb⟩, h2, h3⟩, h.nb, hGS, htab, h.tg⟩
theorem tab_kept {W W' : World} {G : Nat → Prop} (h : Tab W) (hg : G 0) (hk : Kept G W W') : Tab W' := fun j hj => (hk.cell (p := ⟨0, j, none⟩) hg h.pos).trans (h j hj)

theorem in_turn {W : World} {B : Nat} {p : Ply} {G : Nat → Prop} (h : InP W B p G) :
    Calls Tryd.prog 15 #[.pointer (some ⟨B, 0, none⟩)] W fun e W' => e = .returned (.tuple #[.int .u8 (p.turnV.1 : Int), .int .i64 (p.turnV.2 : Int)]) ∧ Below W.heap.size W W' := by
  obtain ⟨vs, vb, h1, _⟩ := h.mem
  exact ply_turn h.ok h1
theorem in_chooser {W : World} {B : Nat} {p : Ply} {G : Nat → Prop} (h : InP W B p G) :
    Calls Tryd.prog 28 #[.pointer (some ⟨B, 0, none⟩)] W fun e W' => e = .returned (.tuple #[.int .u8 (p.chooserV.1 : Int), .int .i64 (p.chooserV.2 : Int)]) ∧ Below W.heap.size W W' := by
  obtain ⟨vs, vb, h1, _⟩ := h.mem
  exact ply_chooser h.ok h1
theorem in_legal {W : World} {B : Nat} {p : Ply} {G : Nat → Prop} (h : InP W B p G) :
    Calls Tryd.prog 14 #[.pointer (some ⟨B, 0, none⟩)] W fun e W' => e = .returned (.int .u64 (p.st.legal : Int)) ∧ Below W.heap.size W W' := by
  obtain ⟨vs, vb, h1, _⟩ := h.mem
  exact ply_legal h.ok h1 h.tab
theorem in_hand {W : World} {B : Nat} {p : Ply} {G : Nat → Prop} (h : InP W B p G) (s : Nat) (hs : s < 256) :
    Calls Tryd.prog 22 #[.pointer (some ⟨B, 0, none⟩), .int .u8 (s : Int)] W fun e W' => e = .returned (.int .u64 (p.handV s : Int)) ∧ W = W' := by
  obtain ⟨vs, vb, h1, _⟩ := h.mem
  exact ply_hand h.ok h1 s hs
theorem in_seen {W : World} {B : Nat} {p : Ply} {G : Nat → Prop} (h : InP W B p G) (s : Nat) (hs : s ≤ 3) :
    Calls Tryd.prog 21 #[.pointer (some ⟨B, 0, none⟩), .int .u8 (s : Int)] W fun e W' =>
      e = .returned (.tuple #[.agg (arr4 (p.seenH s)), .int .u64 (hidV p.st.h (p.seenH s) : Int)]) ∧ Below W.heap.size W W' := by
  obtain ⟨vs, vb, h1, _⟩ := h.mem
  exact ply_seen h.ok h1 hs
theorem in_tricks {W : World} {B : Nat} {p : Ply} {G : Nat → Prop} (h : InP W B p G) :
    Calls Tryd.prog 33 #[.pointer (some ⟨B, 0, none⟩)] W fun e W' => e = .returned (.tuple #[.int .i64 (tkWon p.tks 0 : Int), .int .i64 (tkWon p.tks 1 : Int)]) ∧ Below W.heap.size W W' := by
  obtain ⟨vs, vb, h1, _⟩ := h.mem
  exact ply_Tricks h.ok h1
theorem in_result {W : World} {B : Nat} {p : Ply} {G : Nat → Prop} (h : InP W B p G) :
    Calls Tryd.prog 19 #[.pointer (some ⟨B, 0, none⟩)] W fun e W' => e = .returned (.tuple #[.int .i64 (p.resV.1 : Int), .int .i64 (p.resV.2 : Int)]) ∧ Below W.heap.size W W' := by
  obtain ⟨vs, vb, h1, _⟩ := h.mem
  exact ply_result h.ok h1
/-- after a method that writes -/
theorem InP.next {W W' : World} {B : Nat} {p q : Ply} {G : Nat → Prop} {vs vb : Value} (h : InP W B p G) (h2 : ∀ g, vs.ownBlock = some g → ¬ G g) (h3 : ∀ g, vb.ownBlock = some g → ¬ G g) (hq : q.ok)
    (hp : ∃ vs' vb', PlyAt W' B 0 q vs' vb' ∧ Kept (Ply.S B vs vb) W W' ∧ NewB W vs vs' ∧ NewB W vb vb') : InP W' B q G ∧ Kept G W W' := by
  obtain ⟨vs', vb', h4, h5, h6, h7⟩ := hp
  have hk : Kept G W W' := h5.mono fun b hb => ⟨fun e => h.nb (e ▸ hb), fun e => h2 b e.symm hb, fun e => h3 b e.symm hb⟩
  have hn : ∀ {v v' : Value}, NewB W v v' → (∀ g, v.ownBlock = some g → ¬ G g) → ∀ g, v'.ownBlock = some g → ¬ G g := by
    intro v v' hv hg g e hG
    rcases hv with h8 | h8 | ⟨g', h8, h9⟩
    · exact hg g (h8 ▸ e) hG
    · rw [h8] at e; cases e
    · rw [h8] at e; injection e with e; have := h.lt g hG; omega
  exact ⟨⟨hq, ⟨vs', vb', h4, hn h6 h2, hn h7 h3⟩, h.nb, fun g hg => Nat.lt_of_lt_of_le (h.lt g hg) hk.size, tab_kept h.tab h.tg hk, h.tg⟩, hk⟩
theorem in_do {W : World} {B : Nat} {p : Ply} {G : Nat → Prop} (h : InP W B p G) (c : Nat) (hc : c < 256) (hq : (p.doV c).2.ok) :
    Calls Tryd.prog 18 #[.pointer (some ⟨B, 0, none⟩), .int .u8 (c : Int)] W fun e W' => e = .returned (.int .i64 ((p.doV c).1 : Int)) ∧ InP W' B (p.doV c).2 G ∧ Kept G W W' := by
  obtain ⟨vs, vb, h1, h2, h3⟩ := h.mem
  exact (ply_do h.ok h1 h.tab hc (Nat.zero_le _)).mono fun e W' ⟨he, hp⟩ => ⟨he, h.next h2 h3 hq hp⟩
theorem in_undo {W : World} {B : Nat} {p : Ply} {G : Nat → Prop} (h : InP W B p G) (hq : p.undoV.2.ok) :
    Calls Tryd.prog 25 #[.pointer (some ⟨B, 0, none⟩)] W fun e W' => e = .returned (.int .i64 (p.undoV.1 : Int)) ∧ InP W' B p.undoV.2 G ∧ Kept G W W' := by
  obtain ⟨vs, vb, h1, h2, h3⟩ := h.mem
  exact (ply_undo h.ok h1 (Nat.zero_le _)).mono fun e W' ⟨he, hp⟩ => ⟨he, h.next h2 h3 hq hp⟩
theorem newP_ok {d : Nat → Nat} {lv dn rk dc : Nat} (hd : ∀ i, W64 (d i)) (h : newE d lv dn rk dc = 0) : (newP d lv dn rk dc).ok := by
  have h1 : (leadV lv dn rk dc).2 = 0 := by
    unfold newE at h; split at h
    · assumption
    · exact h
  obtain ⟨_, h2, h3, h4, h5, h6⟩ := leadV_ok h1
  exact ⟨⟨hd, Nat.mod_lt _ (by decide), (by show 0 < 4; decide), fun _ => (by show 0 < 52; decide)⟩, ⟨h2, h3⟩, h4, h5, h6, (fun x hx => by cases hx), (fun x hx => by cases hx), by show 0 + 0 ≤ 60000; decide⟩
theorem in_new (d : Nat → Nat) (lv dn rk dc : Nat) (hd : ∀ i, W64 (d i)) (hok : newE d lv dn rk dc = 0) (G : Nat → Prop) (W : World) (hG : ∀ g, G g → g < W.heap.size) (hT : Tab W) (ht : G 0) :
    Calls Tryd.prog 13 #[.agg #[.int .u64 (d 0 : Int), .int .u64 (d 1 : Int), .int .u64 (d 2 : Int), .int .u64 (d 3 : Int)], .agg #[.int .u8 (lv : Int), .int .u8 (dn : Int), .int .u8 (rk : Int), .int .u8 (dc : Int)]] W fun e W' =>
      ∃ B, e = .returned (.tuple #[.pointer (some ⟨B, 0, none⟩), .int .i64 0]) ∧ InP W' B (newP d lv dn rk dc) G ∧ Below W.heap.size W W' := by
  refine (play_new d lv dn rk dc (fun i _ => hd i) hok W).mono ?_
  rintro e W' ⟨B, he, hB, hp, hb⟩
  exact ⟨B, he, ⟨newP_ok hd hok, ⟨_, _, hp 0, fun g e => by simp [Value.ownBlock] at e, fun g e => by simp [Value.ownBlock] at e⟩, fun h => by have := hG B h; omega, fun g hg => Nat.lt_of_lt_of_le (hG g hg) hb.size, hT.below hT.pos hb, ht⟩, hb⟩
end Go.Proofs.YtginbellakkliaaDoor

/- The plays of the example of finesselaw12.awake, step by step, over this seat's program. -/
namespace Go.Proofs.YtginbellakkliaaDoor
open Go.RowKit Go.Shelf Go.Sort

/-- four numbers -/
def L4 (a b c d : Nat) : Nat → Nat
  | 0 => a | 1 => b | 2 => c | 3 => d | _ => 0
theorem put_ok {s : PSt} (h : s.ok) (dn : Nat) {c : Nat} (hc : c < 52) : (s.put dn c).ok := by
  have hh : ∀ j, W64 (setH s.h s.next (landn (s.h s.next) (shl1 c)) j) := W64.setH h.h _ _ ((h.h _).landn)
  unfold PSt.put
  split
  · exact ⟨hh, seatV_lt _ _ _, (by show 0 < 4; decide), fun _ => (by show 0 < 52; decide)⟩
  · refine ⟨hh, h.ld, (by have := h.ct; show s.ct + 1 < 4; omega), fun j => ?_⟩
    show setH s.cs s.ct c j < 52
    unfold setH; split
    · exact hc
    · exact h.cs j
theorem Ply.put_ok {p : Ply} (h : p.ok) {c : Nat} (hc : c < 52) (hm : p.steps.length + 1 + p.back.length ≤ 60000) : (p.put c).ok :=
  ⟨Go.Proofs.YtginbellakkliaaDoor.put_ok h.st _ hc, h.lv, h.dn, h.rk, h.dc, (fun x hx => by rcases List.mem_append.1 hx with hx | hx; exact h.steps x hx; (obtain rfl := List.mem_singleton.1 hx; exact ⟨h.st, hc⟩)), h.back, by show (p.steps ++ [_]).length + p.back.length ≤ _; rw [List.length_append]; simpa using hm⟩
theorem doV_ok {p : Ply} (h : p.ok) (c : Nat) (hm : p.steps.length < 60000) : (p.doV c).2.ok := by
  unfold Ply.doV
  split
  · exact h
  · split
    · rename_i h1
      exact Ply.put_ok (p := { p with back := [] }) ⟨h.st, h.lv, h.dn, h.rk, h.dc, h.steps, (fun x hx => by cases hx), by show p.steps.length + 0 ≤ 60000; omega⟩ h1.1 (by show p.steps.length + 1 + 0 ≤ 60000; omega)
    · exact h
theorem undoV_ok {p : Ply} (h : p.ok) : p.undoV.2.ok := by
  rcases List.eq_nil_or_concat p.steps with hs | ⟨init, x, hs⟩
  · have hu : p.undoV = (6, p) := by unfold Ply.undoV; rw [hs]; rfl
    rw [hu]; exact h
  · rw [List.concat_eq_append] at hs
    have hu : p.undoV = (0, { p with st := x.st, steps := init, back := p.back ++ [x.c] }) := by
      unfold Ply.undoV; rw [hs]; simp
    rw [hu]
    have hx := h.steps x (by rw [hs]; simp)
    refine ⟨hx.1, h.lv, h.dn, h.rk, h.dc, fun y hy => h.steps y (by rw [hs]; simp [show y ∈ init from hy]), fun c hc => ?_, ?_⟩
    · rcases List.mem_append.1 (show c ∈ p.back ++ [x.c] from hc) with h1 | h1
      · exact h.back c h1
      · rw [List.mem_singleton.1 h1]; exact hx.2
    · have := h.many
      rw [hs] at this
      show init.length + (p.back ++ [x.c]).length ≤ 60000
      simp at this ⊢; omega
theorem put_far (s : PSt) (dn c j : Nat) (hh : ∀ j, 4 ≤ j → s.h j = 0) (hc : ∀ j, 4 ≤ j → s.cs j = 0) (hct : s.ct < 4) (hj : 4 ≤ j) : (s.put dn c).h j = 0 ∧ (s.put dn c).cs j = 0 := by
  have hn : s.next < 4 := Nat.mod_lt _ (by decide)
  unfold PSt.put
  split
  · exact ⟨by show setH _ _ _ _ = 0; unfold setH; rw [if_neg (by omega)]; exact hh j hj, rfl⟩
  · exact ⟨by show setH _ _ _ _ = 0; unfold setH; rw [if_neg (by omega)]; exact hh j hj, by show setH _ _ _ _ = 0; unfold setH; rw [if_neg (by omega)]; exact hc j hj⟩
theorem L4_far (a b c d j : Nat) (h : 4 ≤ j) : L4 a b c d j = 0 := by
  obtain ⟨k, rfl⟩ : ∃ k, j = k + 4 := ⟨j - 4, by omega⟩
  rfl
theorem L4_eq {f : Nat → Nat} {a b c d : Nat} (h0 : f 0 = a) (h1 : f 1 = b) (h2 : f 2 = c) (h3 : f 3 = d) (hf : ∀ j, 4 ≤ j → f j = 0) : f = L4 a b c d := by
  funext j
  rcases (show j = 0 ∨ j = 1 ∨ j = 2 ∨ j = 3 ∨ 4 ≤ j by omega) with rfl | rfl | rfl | rfl | hj
  · exact h0
  · exact h1
  · exact h2
  · exact h3
  · rw [hf j hj, L4_far _ _ _ _ _ hj]
theorem put_lit {a b c d ld ct x y z t dn k a' b' c' d' ld' ct' x' y' z' t' : Nat}
    (h : (let P := (⟨L4 a b c d, ld, ct, L4 x y z t⟩ : PSt).put dn k; ct < 4 ∧ P.h 0 = a' ∧ P.h 1 = b' ∧ P.h 2 = c' ∧ P.h 3 = d' ∧ P.ld = ld' ∧ P.ct = ct' ∧ P.cs 0 = x' ∧ P.cs 1 = y' ∧ P.cs 2 = z' ∧ P.cs 3 = t')) :
    (⟨L4 a b c d, ld, ct, L4 x y z t⟩ : PSt).put dn k = ⟨L4 a' b' c' d', ld', ct', L4 x' y' z' t'⟩ := by
  have hf := fun j hj => put_far (⟨L4 a b c d, ld, ct, L4 x y z t⟩ : PSt) dn k j (fun j => L4_far _ _ _ _ j) (fun j => L4_far _ _ _ _ j) h.1 hj
  generalize (⟨L4 a b c d, ld, ct, L4 x y z t⟩ : PSt).put dn k = P at *
  obtain ⟨-, h0, h1, h2, h3, h4, h5, h6, h7, h8, h9⟩ := h
  obtain ⟨ph, pl, pc, pcs⟩ := P
  subst h4 h5
  rw [show ph = L4 a' b' c' d' from L4_eq h0 h1 h2 h3 fun j hj => (hf j hj).1, show pcs = L4 x' y' z' t' from L4_eq h6 h7 h8 h9 fun j hj => (hf j hj).2]
def aws0 : PSt := ⟨(L4 8193 16386 32772 33558528), 3, 0, (L4 0 0 0 0)⟩
def aws1 : PSt := ⟨(L4 8193 16386 32772 33554432), 3, 1, (L4 12 0 0 0)⟩
def aws2 : PSt := ⟨(L4 8192 16386 32772 33554432), 3, 2, (L4 12 0 0 0)⟩
def aws3 : PSt := ⟨(L4 8192 16384 32772 33554432), 3, 3, (L4 12 0 1 0)⟩
def aws4 : PSt := ⟨(L4 8192 16384 32768 33554432), 3, 0, (L4 0 0 0 0)⟩
def aws5 : PSt := ⟨(L4 8192 16384 32768 0), 3, 1, (L4 25 0 0 0)⟩
def aws6 : PSt := ⟨(L4 0 16384 32768 0), 3, 2, (L4 25 13 0 0)⟩
def aws7 : PSt := ⟨(L4 0 0 32768 0), 3, 3, (L4 25 13 14 0)⟩
def aws8 : PSt := ⟨(L4 0 0 0 0), 3, 0, (L4 0 0 0 0)⟩
def aw0 : Ply := ⟨aws0, 1, 4, 0, 2, [], []⟩
def aw1 : Ply := ⟨aws1, 1, 4, 0, 2, [⟨aws0, 12⟩], []⟩
def aw2 : Ply := ⟨aws2, 1, 4, 0, 2, [⟨aws0, 12⟩, ⟨aws1, 0⟩], []⟩
def aw3 : Ply := ⟨aws3, 1, 4, 0, 2, [⟨aws0, 12⟩, ⟨aws1, 0⟩, ⟨aws2, 1⟩], []⟩
def aw4 : Ply := ⟨aws4, 1, 4, 0, 2, [⟨aws0, 12⟩, ⟨aws1, 0⟩, ⟨aws2, 1⟩, ⟨aws3, 2⟩], []⟩
def aw5 : Ply := ⟨aws5, 1, 4, 0, 2, [⟨aws0, 12⟩, ⟨aws1, 0⟩, ⟨aws2, 1⟩, ⟨aws3, 2⟩, ⟨aws4, 25⟩], []⟩
def aw6 : Ply := ⟨aws6, 1, 4, 0, 2, [⟨aws0, 12⟩, ⟨aws1, 0⟩, ⟨aws2, 1⟩, ⟨aws3, 2⟩, ⟨aws4, 25⟩, ⟨aws5, 13⟩], []⟩
def aw7 : Ply := ⟨aws7, 1, 4, 0, 2, [⟨aws0, 12⟩, ⟨aws1, 0⟩, ⟨aws2, 1⟩, ⟨aws3, 2⟩, ⟨aws4, 25⟩, ⟨aws5, 13⟩, ⟨aws6, 14⟩], []⟩
def aw8 : Ply := ⟨aws8, 1, 4, 0, 2, [⟨aws0, 12⟩, ⟨aws1, 0⟩, ⟨aws2, 1⟩, ⟨aws3, 2⟩, ⟨aws4, 25⟩, ⟨aws5, 13⟩, ⟨aws6, 14⟩, ⟨aws7, 15⟩], []⟩
def au1 : Ply := ⟨aws7, 1, 4, 0, 2, [⟨aws0, 12⟩, ⟨aws1, 0⟩, ⟨aws2, 1⟩, ⟨aws3, 2⟩, ⟨aws4, 25⟩, ⟨aws5, 13⟩, ⟨aws6, 14⟩], [15]⟩
def au2 : Ply := ⟨aws6, 1, 4, 0, 2, [⟨aws0, 12⟩, ⟨aws1, 0⟩, ⟨aws2, 1⟩, ⟨aws3, 2⟩, ⟨aws4, 25⟩, ⟨aws5, 13⟩], [15, 14]⟩
def au3 : Ply := ⟨aws5, 1, 4, 0, 2, [⟨aws0, 12⟩, ⟨aws1, 0⟩, ⟨aws2, 1⟩, ⟨aws3, 2⟩, ⟨aws4, 25⟩], [15, 14, 13]⟩
def au4 : Ply := ⟨aws4, 1, 4, 0, 2, [⟨aws0, 12⟩, ⟨aws1, 0⟩, ⟨aws2, 1⟩, ⟨aws3, 2⟩], [15, 14, 13, 25]⟩
def au5 : Ply := ⟨aws3, 1, 4, 0, 2, [⟨aws0, 12⟩, ⟨aws1, 0⟩, ⟨aws2, 1⟩], [15, 14, 13, 25, 2]⟩
def au6 : Ply := ⟨aws2, 1, 4, 0, 2, [⟨aws0, 12⟩, ⟨aws1, 0⟩], [15, 14, 13, 25, 2, 1]⟩
def au7 : Ply := ⟨aws1, 1, 4, 0, 2, [⟨aws0, 12⟩], [15, 14, 13, 25, 2, 1, 0]⟩
def au8 : Ply := ⟨aws0, 1, 4, 0, 2, [], [15, 14, 13, 25, 2, 1, 0, 12]⟩
theorem aw_put0 : aws0.put 4 12 = aws1 := put_lit (by decide +kernel)
theorem aw_do0 : aw0.doV 12 = (0, aw1) := by
  unfold Ply.doV
  rw [if_neg (by decide +kernel), if_pos (by decide +kernel)]
  show (0, ({ st := aws0.put 4 12, lv := 1, dn := 4, rk := 0, dc := 2, steps := _, back := [] } : Ply)) = _
  rw [aw_put0]; rfl
theorem aw_put1 : aws1.put 4 0 = aws2 := put_lit (by decide +kernel)
theorem aw_do1 : aw1.doV 0 = (0, aw2) := by
  unfold Ply.doV
  rw [if_neg (by decide +kernel), if_pos (by decide +kernel)]
  show (0, ({ st := aws1.put 4 0, lv := 1, dn := 4, rk := 0, dc := 2, steps := _, back := [] } : Ply)) = _
  rw [aw_put1]; rfl
theorem aw_put2 : aws2.put 4 1 = aws3 := put_lit (by decide +kernel)
theorem aw_do2 : aw2.doV 1 = (0, aw3) := by
  unfold Ply.doV
  rw [if_neg (by decide +kernel), if_pos (by decide +kernel)]
  show (0, ({ st := aws2.put 4 1, lv := 1, dn := 4, rk := 0, dc := 2, steps := _, back := [] } : Ply)) = _
  rw [aw_put2]; rfl
theorem aw_put3 : aws3.put 4 2 = aws4 := put_lit (by decide +kernel)
theorem aw_do3 : aw3.doV 2 = (0, aw4) := by
  unfold Ply.doV
  rw [if_neg (by decide +kernel), if_pos (by decide +kernel)]
  show (0, ({ st := aws3.put 4 2, lv := 1, dn := 4, rk := 0, dc := 2, steps := _, back := [] } : Ply)) = _
  rw [aw_put3]; rfl
theorem aw_put4 : aws4.put 4 25 = aws5 := put_lit (by decide +kernel)
theorem aw_do4 : aw4.doV 25 = (0, aw5) := by
  unfold Ply.doV
  rw [if_neg (by decide +kernel), if_pos (by decide +kernel)]
  show (0, ({ st := aws4.put 4 25, lv := 1, dn := 4, rk := 0, dc := 2, steps := _, back := [] } : Ply)) = _
  rw [aw_put4]; rfl
theorem aw_put5 : aws5.put 4 13 = aws6 := put_lit (by decide +kernel)
theorem aw_do5 : aw5.doV 13 = (0, aw6) := by
  unfold Ply.doV
  rw [if_neg (by decide +kernel), if_pos (by decide +kernel)]
  show (0, ({ st := aws5.put 4 13, lv := 1, dn := 4, rk := 0, dc := 2, steps := _, back := [] } : Ply)) = _
  rw [aw_put5]; rfl
theorem aw_put6 : aws6.put 4 14 = aws7 := put_lit (by decide +kernel)
theorem aw_do6 : aw6.doV 14 = (0, aw7) := by
  unfold Ply.doV
  rw [if_neg (by decide +kernel), if_pos (by decide +kernel)]
  show (0, ({ st := aws6.put 4 14, lv := 1, dn := 4, rk := 0, dc := 2, steps := _, back := [] } : Ply)) = _
  rw [aw_put6]; rfl
theorem aw_put7 : aws7.put 4 15 = aws8 := put_lit (by decide +kernel)
theorem aw_do7 : aw7.doV 15 = (0, aw8) := by
  unfold Ply.doV
  rw [if_neg (by decide +kernel), if_pos (by decide +kernel)]
  show (0, ({ st := aws7.put 4 15, lv := 1, dn := 4, rk := 0, dc := 2, steps := _, back := [] } : Ply)) = _
  rw [aw_put7]; rfl
theorem aw_no : aw0.doV 0 = (122, aw0) := by
  unfold Ply.doV
  rw [if_neg (by decide +kernel), if_neg (by decide +kernel)]
theorem aw_over : aw8.doV 0 = (121, aw8) := by
  unfold Ply.doV
  rw [if_pos (by decide +kernel)]
theorem aw_un0 : aw8.undoV = (0, au1) := rfl
theorem aw_un1 : au1.undoV = (0, au2) := rfl
theorem aw_un2 : au2.undoV = (0, au3) := rfl
theorem aw_un3 : au3.undoV = (0, au4) := rfl
theorem aw_un4 : au4.undoV = (0, au5) := rfl
theorem aw_un5 : au5.undoV = (0, au6) := rfl
theorem aw_un6 : au6.undoV = (0, au7) := rfl
theorem aw_un7 : au7.undoV = (0, au8) := rfl
theorem aw_none : au8.undoV = (6, au8) := rfl
theorem aw_new : newE (L4 8193 16386 32772 33558528) 1 4 0 2 = 0 := by decide +kernel
theorem aw_newP : newP (L4 8193 16386 32772 33558528) 1 4 0 2 = aw0 := by
  unfold newP aw0 aws0
  rw [show (fun _ => 0 : Nat → Nat) = L4 0 0 0 0 from L4_eq rfl rfl rfl rfl fun _ _ => rfl]
theorem aw_turn0 : aw0.turnV = (3, 0) := by decide +kernel
theorem aw_turn1 : aw1.turnV = (0, 0) := by decide +kernel
theorem aw_chooser1 : aw1.chooserV = (2, 0) := by decide +kernel
theorem aw_legal1 : aw1.st.legal = 1 := by decide +kernel
theorem aw_turn4 : aw4.turnV = (3, 0) := by decide +kernel
theorem aw_res4 : aw4.resV = (0, 123) := by decide +kernel
theorem aw_res8 : aw8.resV = (0, 0) := by decide +kernel
theorem aw_ns8 : tkWon aw8.tks 0 = 0 := by decide +kernel
theorem aw_ew8 : tkWon aw8.tks 1 = 2 := by decide +kernel
theorem aw_turn9 : au8.turnV = (3, 0) := by decide +kernel
theorem aw_hid0 : hidV aw0.st.h (aw0.seenH 2) = 33583107 := by decide +kernel
theorem aw_hid1 : hidV aw1.st.h (aw1.seenH 2) = 33570818 := by decide +kernel
theorem aw_seen0 : arr4 (aw0.seenH 2) = #[.int .u64 0, .int .u64 0, .int .u64 32772, .int .u64 0] := by kernel_rfl
theorem aw_seen1 : arr4 (aw1.seenH 2) = #[.int .u64 8193, .int .u64 0, .int .u64 32772, .int .u64 0] := by kernel_rfl
end Go.Proofs.YtginbellakkliaaDoor
