/- The contract of a play's method Do, over this seat's program. -/
import Derived.Test.YtginbellakkliaaDoorPyC
namespace Go.Proofs.YtginbellakkliaaDoor
open Go.RowKit Go.Shelf Go.Sort

/-- what a play's own blocks are -/
def Ply.S (B : Nat) (vs vb : Value) : Nat → Prop := fun k => k ≠ B ∧ some k ≠ vs.ownBlock ∧ some k ≠ vb.ownBlock
/-- a value's block is the old one's, none, or a new one -/
def NewB (w : World) (v v' : Value) : Prop := v'.ownBlock = v.ownBlock ∨ v'.ownBlock = none ∨ ∃ g, v'.ownBlock = some g ∧ w.heap.size ≤ g
theorem legal_w64 {s : PSt} (hs : s.ok) : W64 s.legal := by
  unfold PSt.legal
  split
  · exact W64.zero
  · exact playableV_w64 _ _ (hs.h _)
set_option maxRecDepth 100000 in
theorem ply_do {w : World} {B base c : Nat} {p : Ply} {vs vb : Value} (hp : p.ok) (h : PlyAt w B base p vs vb) (hT : Tab w) (hc : c < 256) (hbB : base ≤ B) :
    Calls Tryd.prog 18 #[.pointer (some ⟨B, 0, none⟩), .int .u8 (c : Int)] w fun e w' => e = .returned (.int .i64 ((p.doV c).1 : Int)) ∧
      ∃ vs' vb', PlyAt w' B base (p.doV c).2 vs' vb' ∧ Kept (Ply.S B vs vb) w w' ∧ NewB w vs vs' ∧ NewB w vb vb' := by
  obtain ⟨a, cap, hvs, -⟩ := h.ss.slice
  have HM := Lib.hid (ply_made hp h)
  have HO := Lib.hid (ply_over h)
  have HL := Lib.hid (ply_legal hp h hT)
  unfold Ply.doV
  cases ho : p.st.over
  · rw [ho] at HO
    rw [if_neg (by decide)]
    by_cases h52 : c < 52
    · have HR := Lib.hid (card_right c)
      rw [decide_eq_true (p := c < 52) h52] at HR
      have hlw : W64 p.st.legal := legal_w64 hp.st
      cases hbit : p.st.legal.testBit c
      · rw [if_neg (by simp)]
        go_enter Tryd.func18, Tryd.ntmps18
        go_wp2_with (first
          | (go_at_call 41; refine HM.out.mono ?_; rintro e w' ⟨rfl, rfl⟩)
          | (go_at_call 42; refine HO.out.mono ?_; rintro e w' ⟨rfl, rfl⟩)
          | (go_at_call 46; refine (HR.out _).mono ?_; rintro e w' ⟨rfl, rfl⟩)
          | (go_at_call 14; refine HL.out.mono ?_; rintro e w1 ⟨rfl, hb1⟩))
        go_ret
        exact ⟨rfl, vs, vb, h.below hb1, Kept.of_below hb1, .inl rfl, .inl rfl⟩
      · rw [if_pos ⟨h52, rfl⟩]
        obtain ⟨p0, hp0⟩ : ∃ p0 : Ply, p0 = { p with back := [] } := ⟨_, rfl⟩
        rw [← hp0]
        have HP0 := Lib.hid hp0
        clear hp0
        go_enter Tryd.func18, Tryd.ntmps18
        go_wp2_with (first
          | (go_at_call 41; refine HM.out.mono ?_; rintro e w' ⟨rfl, rfl⟩)
          | (go_at_call 42; refine HO.out.mono ?_; rintro e w' ⟨rfl, rfl⟩)
          | (go_at_call 46; refine (HR.out _).mono ?_; rintro e w' ⟨rfl, rfl⟩)
          | (go_at_call 14; refine HL.out.mono ?_; rintro e w1 ⟨rfl, hb1⟩; have h1 := h.below hb1; have hR1 := h1.row; have c15 : w1.cell? ⟨B, 15, none⟩ = some vb := hR1.cell 15; have f15 := hR1.frozen 15))
        have hp0 := HP0.out
        have hok0 : p0.ok := by
          subst hp0
          exact ⟨hp.st, hp.lv, hp.dn, hp.rk, hp.dc, hp.steps, (fun c hc => by cases hc), by have := hp.many; show p.steps.length + 0 ≤ 60000; omega⟩
        have h2 : PlyAt (w1.setCell ⟨B, 15, none⟩ (.slice none 0 0)) B base p0 vs (.slice none 0 0) := by
          subst hp0
          exact ⟨hR1.set 15 _, Owns.kept (row := some B) h1.ss (grownBy_set (World.grownBy.refl w1 (some B)) (.inl rfl) _) (.inl (fun e => h1.ns e.symm)), Owns.nil encU_len _ _, h1.ns, (fun e => by cases e), (fun g _ e => by cases e)⟩
        have hk2 : Kept (Ply.S B vs vb) w (w1.setCell ⟨B, 15, none⟩ (.slice none 0 0)) := (Kept.of_below hb1).setCell (fun hk => hk.1 rfl) _
        subst hvs
        refine (ply_put hok0 h2 h52 hbB).mono ?_
        rintro e w3 ⟨rfl, vs', h3, hk3, hv3⟩
        go_wp2_with fail
        go_ret
        refine ⟨rfl, vs', .slice none 0 0, h3, hk2.trans (hk3.mono (fun k hk => ⟨hk.1, hk.2.1⟩)), ?_, .inr (.inl rfl)⟩
        rcases hv3 with hv | ⟨g, hv, hg⟩
        · exact .inl hv
        · exact .inr (.inr ⟨g, hv, by have := hk2.size; omega⟩)
    · rw [if_neg (by omega)]
      have HR := Lib.hid (card_right c)
      rw [decide_eq_false (p := c < 52) h52] at HR
      go_enter Tryd.func18, Tryd.ntmps18
      go_wp2_with (first
          | (go_at_call 41; refine HM.out.mono ?_; rintro e w' ⟨rfl, rfl⟩)
          | (go_at_call 42; refine HO.out.mono ?_; rintro e w' ⟨rfl, rfl⟩)
          | (go_at_call 46; refine (HR.out _).mono ?_; rintro e w' ⟨rfl, rfl⟩))
      go_ret
      exact ⟨rfl, vs, vb, h, Kept.refl _ _, .inl rfl, .inl rfl⟩
  · rw [ho] at HO
    rw [if_pos rfl]
    go_enter Tryd.func18, Tryd.ntmps18
    go_wp2_with (first
      | (go_at_call 41; refine HM.out.mono ?_; rintro e w' ⟨rfl, rfl⟩)
      | (go_at_call 42; refine HO.out.mono ?_; rintro e w' ⟨rfl, rfl⟩))
    go_ret
    exact ⟨rfl, vs, vb, h, Kept.refl _ _, .inl rfl, .inl rfl⟩
end Go.Proofs.YtginbellakkliaaDoor
