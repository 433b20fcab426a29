/- Contract of trick.Playable over this seat's program, where cards can be played to a trick. -/
import Derived.Test.YtginbellakkliaaDoorPlayS
import Derived.Test.YtginbellakkliaaDoorRange
namespace Go.Proofs.YtginbellakkliaaDoor
open Go.RowKit Go.Shelf Go.Sort
attribute [local go_sem] Oper.semAt_some

theorem play_late (hand : Nat) (a : Option Addr) (len cap : Nat) (zs : List Nat) (w : World) (hz : Byt w a len zs) (hh : hand < 4503599627370496) (h1 : 1 ≤ len) (h3 : len ≤ 3) (hr : rightB zs = true) (hT : Tab w) :
    Calls Tryd.prog 43 #[.int .u64 (hand : Int), .slice a len cap] w fun e w' => e = .returned (.tuple #[.int .u64 ((playLate (suit (zs.getD 0 0)) (restV hand zs) : Nat) : Int), .int .i64 0]) ∧ Below w.heap.size w w' := by
  obtain ⟨b, off, rfl, hb, hcs⟩ := hz.at (by omega)
  have hc := hcs 0 (by omega)
  clear hcs
  rw [Nat.add_zero] at hc
  have hpos : (0 : Int) < (len : Int) := by omega
  have hpos2 : 0 < len := by omega
  have hw : W64 hand := by unfold W64; omega
  have h1' : ((hand : Int) / 4503599627370496 != 0) = false := by rw [bne_eq_false_iff_eq]; omega
  have h2' : ((len : Int) == 0) = false := by simp; omega
  have h4' : ((len : Int) == 4) = false := by simp; omega
  have hm64 := maskR_w64 zs 0 W64.zero
  have hrest : W64 (restV hand zs) := hw.landn
  generalize hc0 : zs.getD 0 0 = c0 at *
  clear hc0
  have hBa : ∀ o, Below w.heap.size w (w.alloc o) := fun o => (Below.refl _ _).alloc (Nat.le_refl _) _
  have HBa := Lib.hid hBa
  clear hBa
  refine (callsIn_wide (n := 9)).1 (callsIn_of_wp_marks Tryd.func43 rfl trivial ?_)
  simp only [Tryd.ntmps43, List.size_toArray, List.length_cons, List.length_nil, Nat.reduceAdd, Nat.reduceSub, Array.replicate_succ, Array.replicate_zero, List.push_toArray, List.append_toArray, List.nil_append, List.cons_append]
  gi_wp2_with (first | (gi_at_call 60; refine (callsIn_wide.2 (trick_right _ _ _ zs _ (hz.below (Nat.le_refl _) (HBa.out _)))).mono ?_; rw [hr]; rintro e w' ⟨rfl, rfl⟩) | (gi_at_call 61; refine (callsIn_wide.2 (card_mask _ _ _ zs _ (hz.below (Nat.le_refl _) (HBa.out _)))).mono ?_; rintro e w' ⟨rfl, rfl⟩) | (gi_at_call 62; refine (callsIn_wide.2 (trick_cards _ _)).mono ?_; rintro e w' ⟨rfl, rfl⟩))
  have hBW : Below w.heap.size w (((w.alloc (.cells #[.slice (some ⟨b, off, none⟩) len cap] 22)).alloc (.cells #[.int .u64 0] 24)).alloc (.cells #[.int .u64 (restV hand zs : Int)] 24)) := (((Below.refl _ _).alloc (Nat.le_refl _) _).alloc (by simp) _).alloc (by simp; omega) _
  have hbx1 := ((Boxed.new w 22 (.slice (some ⟨b, off, none⟩) len cap)).alloc (.cells #[.int .u64 0] 24)).alloc (.cells #[.int .u64 (restV hand zs : Int)] 24)
  have hbx2 := (Boxed.new (w.alloc (.cells #[.slice (some ⟨b, off, none⟩) len cap] 22)) 24 (.int .u64 0)).alloc (.cells #[.int .u64 (restV hand zs : Int)] 24)
  have hbx3 := Boxed.new ((w.alloc (.cells #[.slice (some ⟨b, off, none⟩) len cap] 22)).alloc (.cells #[.int .u64 0] 24)) 24 (.int .u64 (restV hand zs : Int))
  simp only [World.size_alloc] at hbx2 hbx3
  refine range_cards (w.heap.size + 1 + 1) w.heap.size (restV hand zs) (by decide) rfl (by simp) hrest hbx3.cell (hT.below hT.pos hBW) hT.pos hBW.size
    (fun pre W => (Boxed W w.heap.size 22 (.slice (some ⟨b, off, none⟩) len cap) ∧ Boxed W (w.heap.size + 1) 24 (.int .u64 (follow (suit c0) pre : Int))) ∧ Below w.heap.size w W) (fun _ _ _ => False)
    (OwnFrom.and (OwnFrom.and ((boxed_own _ _ _).from _) ((boxed_own _ _ _).from _)) (ownFrom_below (Nat.le_refl _) hBW.size)) (fun _ _ _ _ _ h _ _ => h) ⟨⟨hbx1, hbx2⟩, hBW⟩ ?body ?done (fun _ _ _ _ _ _ h _ => h.elim)
  case body =>
    rintro l pre x W ⟨⟨hb1, hb2⟩, hB⟩ _
    simp only [inFrame, List.setIfInBounds_toArray, List.set]
    have hc1 := hb1.cell
    have hc2 := hb2.cell
    have hf2 := hb2.frozen
    have hcW : W.cell? ⟨b, off, none⟩ = some (.int .u8 (c0 : Int)) := (hB.cell (p := ⟨b, off, none⟩) hb).trans hc
    have hr1 := fun dd os => cell_regrown hc1 dd os
    have hr2 := fun dd os => cell_regrown hcW dd os
    have hst := follow_snoc (suit c0) pre x
    have hfw := follow_w64 (suit c0) pre
    generalize follow (suit c0) pre = f at *
    have HST := Lib.hid hst
    clear hst
    gi_wp2
    refine wpIn_region_round (by kernel_rfl) (by kernel_rfl) (by kernel_rfl) ?_
    repeat (quiet_step ((exact Calls.regrown_of ((card_suit _ _).mono fun _ _ ⟨he, hw⟩ => ⟨he, hw ▸ Below.refl _ _⟩))))
    refine wpQuiet_nil ?_
    rintro _ ⟨p, rfl⟩
    have hb3 := below_regrown W p.d p.os
    generalize grow (redrawn W p.d) p.os = w1 at *
    have hb1' := boxed_below hb1 hb3
    have hb2' := boxed_below hb2 hb3
    have hc2' := hb2'.cell
    have hf2' := hb2'.frozen
    clear hr1 hr2
    have hlt1 := hb1.lt
    have hlt2 := hb2.lt
    have hsz3 := hb3.size
    by_cases hs : suit x.val = (suit c0)
    · have hs' : ((suit x.val : Int) == (suit c0 : Int)) = true := by simp; omega
      have hfol : follow (suit c0) (pre ++ [x]) = lor f (shl1 x.val) := by rw [HST.out, folStep, if_pos hs]
      have HF := Lib.hid hfol
      clear hfol hs
      gi_wp2
      exact ⟨(keepsFrom_of_below hb3).trans ((KeepsOthers.setCell _ _ _).from _), (hb3.mono (by omega)).setCell (p := ⟨w.heap.size + 1, 0, none⟩) (by simp) _, ⟨hb1'.other (by omega) _, by rw [HF.out]; exact hb2'.set _⟩, (hB.trans (hb3.mono (by omega))).setCell (p := ⟨w.heap.size + 1, 0, none⟩) (by simp) _⟩
    · have hs' : ((suit x.val : Int) == (suit c0 : Int)) = false := by simp; omega
      have hfol : follow (suit c0) (pre ++ [x]) = f := by rw [HST.out, folStep, if_neg hs]
      have HF := Lib.hid hfol
      clear hfol hs
      gi_wp2
      exact ⟨keepsFrom_of_below hb3, hb3.mono (by omega), ⟨hb1', by rw [HF.out]; exact hb2'⟩, hB.trans (hb3.mono (by omega))⟩
  case done =>
    rintro D W hD ⟨⟨hb1, hb2⟩, hB⟩ hK
    have hc2 := hb2.cell
    have HE : Hid (playLate (suit c0) (restV hand zs) = if follow (suit c0) (bitsList (restV hand zs)) ≠ 0 then follow (suit c0) (bitsList (restV hand zs)) else restV hand zs) := rfl
    generalize follow (suit c0) (bitsList (restV hand zs)) = f at *
    by_cases hf0 : f = 0
    · have hf0' : ((f : Int) != 0) = false := by rw [bne_eq_false_iff_eq]; omega
      gi_wp2
      refine ⟨by simp, .inl ⟨_, _, rfl, run_takeDeferred hK, ?_⟩⟩
      refine ⟨_, results_tmp2 rfl _ _ _, by rw [HE.out, if_neg (by simp [hf0])]; rfl, ?_⟩
      exact hB.trans (belowK_b (w := w) (Nat.le_refl _) W D _ _ (by simp at hD; omega) hK rfl rfl)
    · have hf0' : ((f : Int) != 0) = true := by rw [bne_iff_ne]; omega
      gi_wp2
      refine ⟨by simp, .inl ⟨_, _, rfl, run_takeDeferred hK, ?_⟩⟩
      refine ⟨_, results_tmp2 rfl _ _ _, by rw [HE.out, if_pos hf0]; rfl, ?_⟩
      exact hB.trans (belowK_b (w := w) (Nat.le_refl _) W D _ _ (by simp at hD; omega) hK rfl rfl)
end Go.Proofs.YtginbellakkliaaDoor
