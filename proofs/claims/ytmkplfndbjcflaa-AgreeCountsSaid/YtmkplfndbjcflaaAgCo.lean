/- AgreeCounts over this seat's program: the body. -/
import Derived.Test.YtmkplfndbjcflaaAgHa
import Derived.Deep.CutRange
namespace Go.Proofs.Ytmkplfndbjcflaa
open Go.RowKit Go.Sort Go.Shelf Cnt

/-- how many of a list have something -/
def hs (q : Nat → Bool) (l : List Nat) : Nat := (l.map fun h => if q h then 1 else 0).sum
theorem hs_nil (q : Nat → Bool) : hs q [] = 0 := rfl
theorem hs_succ (q : Nat → Bool) (l : List Nat) (k : Nat) (hk : k < l.length) : hs q (l.take (k + 1)) = hs q (l.take k) + if q (l.getD k 0) then 1 else 0 := by
  unfold hs
  rw [take_succ' l k hk, List.map_append, List.sum_append, getD_eq' l k hk]
  simp
theorem hs_le (q : Nat → Bool) (l : List Nat) : hs q l ≤ l.length := by
  unfold hs
  induction l with
  | nil => exact Nat.le_refl _
  | cons x l ih =>
    rw [List.map_cons, List.sum_cons, List.length_cons]
    split <;> omega
theorem hs_cnt {L : Nat} (hL : L < 4503599627370496) (n : Nat) (q : (Nat → Nat) → Nat → Bool) (p : Nat → Bool) (h : ∀ x, p x = q (lenF (ftM x)) (ftM x).p) : hs p (handsL L n) = cntF (deck L) n q := by
  rw [← hands_sum hL n q]
  unfold hs
  simp only [h]
theorem hs_fits {L : Nat} (hL : L < 4503599627370496) (n : Nat) (A : List Rg) : hs (fitsV A) (handsL L n) = cntF (deck L) n (fitP A) := hs_cnt hL n _ _ fun x => fits_ft A x
theorem hs_both {L : Nat} (hL : L < 4503599627370496) (n : Nat) (A B : List Rg) : hs (fun h => fitsV A h && fitsV B h) (handsL L n) = cntF (deck L) n (fun l p => fitP A l p && fitP B l p) := hs_cnt hL n _ _ fun x => by rw [fits_ft, fits_ft]
theorem hs_pts {L : Nat} (hL : L < 4503599627370496) (n : Nat) (A : List Rg) (k : Nat) : hs (fun h => fitsV A h && decide (ptsM h = k)) (handsL L n) = spV L n A k := hs_cnt hL n _ _ fun x => by rw [fits_ft, pts_ft]
theorem hs_lens {L : Nat} (hL : L < 4503599627370496) (n : Nat) (A : List Rg) (s : Nat) (hs4 : s < 4) (k : Nat) : hs (fun h => fitsV A h && decide (lensM h s = k)) (handsL L n) = lnV L n A s k := hs_cnt hL n _ _ fun x => by rw [fits_ft, lens_ft x s hs4]
theorem hs_all {L : Nat} (hL : L < 4503599627370496) (n : Nat) : (handsL L n).length = chs (pop L) n := by
  have h := hs_cnt hL n (fun _ _ => true) (fun _ => true) (fun _ => rfl)
  have e : hs (fun _ => true) (handsL L n) = (handsL L n).length := by unfold hs; simp only [if_true]; exact sum_ones _
  rw [← e, h, ← deck_pop hL, ← sum_all (deck L) (deck_singles L) n]
  rfl
/-- one more in a table -/
theorem tab_hs (N : Nat) (q : Nat → Bool) (f : Nat → Nat) (l : List Nat) (k : Nat) (hk : k < l.length) (hq : q (l.getD k 0) = true) : tab N (fun j => hs (fun h => q h && decide (f h = j)) (l.take (k + 1))) = tab N (bump (fun j => hs (fun h => q h && decide (f h = j)) (l.take k)) (f (l.getD k 0)) 1) := tab_congr fun j _ => by
  rw [hs_succ _ l k hk, hq, Bool.true_and]
  unfold bump
  by_cases e : j = f (l.getD k 0)
  · rw [if_pos e, decide_eq_true e.symm]; rfl
  · rw [if_neg e, decide_eq_false (fun h => e h.symm)]; simp
theorem tab_hs' (N : Nat) (q : Nat → Bool) (f : Nat → Nat) (l : List Nat) (k : Nat) (hk : k < l.length) (hq : q (l.getD k 0) = false) : tab N (fun j => hs (fun h => q h && decide (f h = j)) (l.take (k + 1))) = tab N (fun j => hs (fun h => q h && decide (f h = j)) (l.take k)) := tab_congr fun j _ => by
  rw [hs_succ _ l k hk, hq, Bool.false_and]; simp
theorem lens_le (h s : Nat) : lensM h s ≤ 13 := by
  unfold lensM
  rw [pop_13 (scards_lt h s)]
  exact rks_len _
theorem pts_le (h : Nat) : ptsM h ≤ 40 := ptA_le h 4

theorem scards_val (z s : Nat) (hz : W64 z) : bits .and .u64 ((z : Int) / 2 ^ (13 * s)) 8191 = ((scards z s : Nat) : Int) := by
  have e1 : (z : Int) / 2 ^ (13 * s) = ((shr z (13 * s) : Nat) : Int) := by unfold shr; rw [Nat.shiftRight_eq_div_pow]; simp
  rw [e1, show (8191 : Int) = ((8191 : Nat) : Int) from rfl, bits_and_nat _ _ hz.shr (by unfold W64; decide)]
  rfl
set_option maxHeartbeats 4000000 in
set_option maxRecDepth 10000 in
theorem law_AgreeCounts (al : Option Addr) (ll cl : Nat) (zs : List Nat) (n : Nat) (ax : Option Addr) (lx cx : Nat) (cs : List Cd) (ay : Option Addr) (ly cy : Nat) (ds : List Cd) (suit : Nat) (w : World)
    (hz : Byt w al ll zs) (hlc : ll ≤ cl) (hn : n < 256) (hx : Cds w ax lx cs) (hlx : lx ≤ cx) (hy : Cds w ay ly ds) (hly : ly ≤ cy) (hsuit : suit < 256) :
    Calls Try.prog 9 #[.slice al ll cl, .int .u8 (n : Int), .slice ax lx cx, .slice ay ly cy, .int .u8 (suit : Int)] w fun e w' => e = .returned (.bool true) ∧ Below w.heap.size w w' := by
  have HZ := Lib.hid hz
  have HX := Lib.hid hx
  have HY := Lib.hid hy
  have hnn : (n : Int) % 7 = ((n % 7 : Nat) : Int) := by omega
  have HN := Lib.hid (show n % 7 ≤ 6 by omega)
  generalize n % 7 = nn at *
  have hss : (suit : Int) % 4 = ((suit % 4 : Nat) : Int) := by omega
  have hs4 : suit % 4 < 4 := by omega
  generalize suit % 4 = s at *
  clear hx hy hz
  have KA := Lib.hid (made_ok cs)
  have LA := Lib.hid (made_len cs)
  generalize hma : made cs = A at *
  have KB := Lib.hid (made_ok ds)
  have LB := Lib.hid (made_len ds)
  generalize hmb : made ds = B at *
  have HPL := Lib.hid (litTo_lt zs (min ll 12))
  have HPP : Hid (pop (litTo zs (min ll 12)) ≤ 12) := Lib.hid (Nat.le_trans (litTo_pop zs _) (by omega))
  obtain ⟨L, HL⟩ : ∃ L, Hid (litTo zs (min ll 12) = L) := ⟨_, Lib.hid rfl⟩
  rw [HL.out] at HPL HPP
  go_enter Try.func9, Try.ntmps9
  go_wp2_with fail
  refine (law_little al ll cl zs _ HZ.out hlc).mono ?_
  rintro e w' ⟨rfl, rfl⟩
  rw [HL.out]
  go_wp2_with fail
  refine (law_Made ax lx cx cs _ HX.out hlx).mono ?_
  rintro e w1 ⟨⟨v1, rfl, hv1⟩, hb1⟩
  rw [hma] at hv1
  obtain ⟨a1, c1, rfl, hR1, hle1, hn1⟩ := hv1.rgs (by have := LA.out; omega)
  have HR1 := Lib.hid hR1
  have HB1 := Lib.hid hb1
  have HY1 := Lib.hid (HY.out.below (Nat.le_refl _) hb1)
  clear hv1 hR1 hb1 hle1 hn1 hma
  go_wp2_with fail
  refine (law_Made ay ly cy ds _ HY1.out hly).mono ?_
  rintro e w2 ⟨⟨v2, rfl, hv2⟩, hb2⟩
  rw [hmb] at hv2
  obtain ⟨a2, c2, rfl, hR2, hle2, hn2⟩ := hv2.rgs (by have := LB.out; omega)
  have HA2 := Lib.hid (HR1.out.below (Nat.le_refl _) hb2)
  have HC2 := Lib.hid hR2
  have HB2 := Lib.hid (HB1.out.trans (hb2.mono HB1.out.size))
  clear hv2 hR2 hb2 hle2 hn2 hmb HR1 HB1 HY1
  have hmk : ∀ w1 : World, (Instr.makeSlice 43 (.int .i64 41) (.int .i64 41)).run Try.prog w1 = .ok (.slice (some ⟨w1.heap.size, 0, none⟩) 41 41) (w1.alloc (.cells (tab 41 fun _ => 0) 3)) := make_ints 41 (by decide)
  have hmk2 : ∀ w1 : World, (Instr.makeSlice 43 (.int .i64 14) (.int .i64 14)).run Try.prog w1 = .ok (.slice (some ⟨w1.heap.size, 0, none⟩) 14 14) (w1.alloc (.cells (tab 14 fun _ => 0) 3)) := make_ints 14 (by decide)
  go_upto_region 4 with fail
  go_cut [19, 20] from 48 to 49 (fun v u w' => ∃ b1 b2, v = .slice (some ⟨b1, 0, none⟩) 41 41 ∧ u = .slice (some ⟨b2, 0, none⟩) 14 14 ∧ Row w' b1 3 (tab 41 fun _ => 0) ∧ Row w' b2 3 (tab 14 fun _ => 0) ∧ b1 ≠ b2 ∧ w2.heap.size ≤ b1 ∧ w2.heap.size ≤ b2 ∧ Below w2.heap.size w2 w')
  case first =>
    go_region
    all_goals go_wp2_with fail
    all_goals go_meet
    · refine ⟨w2.heap.size, w2.heap.size + 1, rfl, rfl, ?_, ?_, by omega, by omega, by omega, ?_⟩
      · exact ((Row.new w2 _ _).alloc _).later (Below.refl _ _).drew
      · exact (Row.new1 w2 _ _ _).later (Below.refl _ _).drew
      · exact (((Below.refl _ _).alloc (Nat.le_refl _) _).alloc (by simp) _).drew
    · refine ⟨w2.heap.size + 1, w2.heap.size, rfl, rfl, ?_, ?_, by omega, by omega, by omega, ?_⟩
      · exact (Row.new1 w2 _ _ _).later (Below.refl _ _).drew
      · exact ((Row.new w2 _ _).alloc _).later (Below.refl _ _).drew
      · exact (((Below.refl _ _).alloc (Nat.le_refl _) _).alloc (by simp) _).drew
  obtain ⟨b1, b2, rfl, rfl, hr1, hr2, hne, hl1, hl2, hbc⟩ := hcut
  have HR1 := Lib.hid hr1
  have HR2 := Lib.hid hr2
  have HNE := Lib.hid hne
  have HL1 := Lib.hid hl1
  have HL2 := Lib.hid hl2
  have HBC := Lib.hid hbc
  have HLC : Hid (b1 < wc.heap.size ∧ b2 < wc.heap.size) := Lib.hid ⟨hr1.lt, hr2.lt⟩
  clear hr1 hr2 hne hl1 hl2 hbc hmk hmk2
  go_wp2_with fail
  refine (law_hands L nn HPL.out (by have := HPP.out; omega) _).mono ?_
  rintro e w3 ⟨⟨v3, rfl, hv3⟩, hb3⟩
  have HSUB : Hid (∀ k, k < (handsL L nn).length → W64 ((handsL L nn).getD k 0)) := Lib.hid fun k hk => by
    rw [getD_eq' _ _ hk]
    have h1 := List.getElem_mem hk
    have := subs_52 (L := L) (k := 52) (by omega) (List.mem_filter.1 (show _ ∈ (subs L 52).filter _ from h1)).1
    unfold W64; omega
  have HALL := Lib.hid (hs_all HPL.out nn)
  have HFIT := Lib.hid (hs_fits HPL.out nn A)
  have HBOTH := Lib.hid (hs_both HPL.out nn A B)
  have HPT := Lib.hid (fun k => hs_pts HPL.out nn A k)
  have HLN := Lib.hid (fun k => hs_lens HPL.out nn A s hs4 k)
  have hN48 : (handsL L nn).length ≤ 1048576 := by
    rw [HALL.out]
    exact Nat.le_trans (chs_le _ _) (Nat.le_trans (Nat.pow_le_pow_right (n := 2) (by decide) (show pop L ≤ 20 by have := HPP.out; omega)) (by decide))
  generalize handsL L nn = lh at *
  obtain ⟨N, HNL⟩ : ∃ N, Hid (lh.length = N) := ⟨_, Lib.hid rfl⟩
  have HN48 : Hid (N ≤ 1048576) := Lib.hid (by rw [← HNL.out]; exact hN48)
  have hform : ∃ a3 c3, v3 = .slice a3 N c3 ∧ (N = 0 ∨ ∃ g, a3 = some ⟨g, 0, none⟩ ∧ wc.heap.size ≤ g ∧ CellsQ w3 g lh) := by
    rcases hv3.form with ⟨h1, h2⟩ | ⟨g, cap, h1, h2, _⟩
    · refine ⟨none, 0, ?_, .inl ?_⟩
      · rw [h1, ← HNL.out, h2]; rfl
      · rw [← HNL.out, h2]; rfl
    · refine ⟨_, cap, by rw [h1, HNL.out], .inr ⟨g, rfl, h2, ?_⟩⟩
      subst h1
      exact CellsQ.of hv3
  obtain ⟨a3, c3, rfl, hg3⟩ := hform
  have HG3 := Lib.hid hg3
  have HR13 := Lib.hid (HR1.out.later hb3)
  have HR23 := Lib.hid (HR2.out.later hb3)
  have HB3 := Lib.hid (HBC.out.trans (hb3.mono HBC.out.size))
  clear hv3 hg3 hb3 hN48 HR1 HR2
  rw [HNL.out] at HSUB HALL
  go_wp2_with fail
  go_loopw [16, 17, 18, 54] (fun t o b i wr => ∃ (k : Nat), k ≤ N ∧ i = .int .i64 (k : Int) ∧ t = .int .i64 (k : Int) ∧ o = .int .i64 ((hs (fitsV A) (lh.take k) : Nat) : Int) ∧ b = .int .i64 ((hs (fun h => fitsV A h && fitsV B h) (lh.take k) : Nat) : Int) ∧
    Row wr b1 3 (tab 41 (fun j => hs (fun h => fitsV A h && decide (ptsM h = j)) (lh.take k))) ∧ Row wr b2 3 (tab 14 (fun j => hs (fun h => fitsV A h && decide (lensM h s = j)) (lh.take k))) ∧ Below w2.heap.size w2 wr ∧
    (N = 0 ∨ ∃ g, a3 = some ⟨g, 0, none⟩ ∧ wc.heap.size ≤ g ∧ CellsQ wr g lh)) (fun _ _ _ i _ => N - (intOf i).toNat)
  case atStart => exact ⟨0, by omega, rfl, rfl, rfl, rfl, HR13.out, HR23.out, HB3.out, HG3.out⟩
  case round =>
    obtain ⟨k, hk, rfl, rfl, rfl, rfl, hr1, hr2, hbw, hg⟩ := hrel
    have HR1b := Lib.hid hr1
    have HR2b := Lib.hid hr2
    have HBBb := Lib.hid hbw
    have HGb := Lib.hid hg
    clear hr1 hr2 hbw hg
    by_cases hlt : k < N
    · have hd : decide ((k : Int) < (N : Int)) = true := by simp; omega
      rcases HGb.out with h0 | ⟨g, rfl, hgl, hce⟩
      · omega
      have HCEb := Lib.hid hce
      have HLB := Lib.hid (show b1 < g ∧ b2 < g by have := HLC.out; omega)
      have hcell := hce.2 k (by have := HNL.out; omega)
      have HWZ := Lib.hid (HSUB.out k hlt)
      have HZ1 : Hid (lh.getD k 0 = lh.getD k 0) := Lib.hid rfl
      have HSUC := Lib.hid fun q => hs_succ q lh k (by have := HNL.out; omega)
      obtain ⟨z, hz⟩ : ∃ z, lh.getD k 0 = z := ⟨_, rfl⟩
      rw [hz] at hcell HWZ HSUC
      clear HZ1
      have HZ1 := Lib.hid hz
      clear hz hce
      have hle1 : hs (fitsV A) (lh.take k) ≤ 1048576 := Nat.le_trans (hs_le _ _) (by have := HNL.out; have := HN48.out; rw [List.length_take]; omega)
      have hle2 : hs (fun h => fitsV A h && fitsV B h) (lh.take k) ≤ 1048576 := Nat.le_trans (hs_le _ _) (by have := HNL.out; have := HN48.out; rw [List.length_take]; omega)
      have hkle : k ≤ 1048576 := by have := HN48.out; omega
      obtain ⟨o1, Ho1⟩ : ∃ o1, Hid (hs (fitsV A) (lh.take k) = o1) := ⟨_, Lib.hid rfl⟩
      obtain ⟨o2, Ho2⟩ : ∃ o1, Hid (hs (fun h => fitsV A h && fitsV B h) (lh.take k) = o1) := ⟨_, Lib.hid rfl⟩
      rw [Ho1.out] at hle1 ⊢
      rw [Ho2.out] at hle2 ⊢
      go_wp2_with fail
      refine (ag_Fits a1 A.length c1 A z HWZ.out _ (HA2.out.below (Nat.le_refl _) HBBb.out)).mono ?_
      rintro e wb ⟨rfl, hb⟩
      have h1' := HR1b.out.later hb
      have h2' := HR2b.out.later hb
      have h3' := HCEb.out.later hb
      have h4' := HBBb.out.trans (hb.mono HBBb.out.size)
      clear hb HR1b HR2b HCEb HBBb
      have HR1b := Lib.hid h1'
      have HR2b := Lib.hid h2'
      have HCEb := Lib.hid h3'
      have HBBb := Lib.hid h4'
      clear h1' h2' h3' h4'
      cases hfa : fitsV A z
      · have HFA := Lib.hid hfa
        go_wp2_with fail
        refine ⟨⟨k + 1, by omega, by simp, by simp, ?_, ?_, ?_, ?_, HBBb.out, .inr ⟨g, rfl, hgl, HCEb.out⟩⟩, by simp [intOf]; omega⟩
        · rw [HSUC.out, HFA.out, ← Ho1.out]; simp
        · rw [HSUC.out, HFA.out, ← Ho2.out]; simp
        · rw [tab_hs' 41 (fitsV A) ptsM lh k (by have := HNL.out; omega) (by rw [HZ1.out]; exact HFA.out)]; exact HR1b.out
        · rw [tab_hs' 14 (fitsV A) (fun h => lensM h s) lh k (by have := HNL.out; omega) (by rw [HZ1.out]; exact HFA.out)]; exact HR2b.out
      · have HFA := Lib.hid hfa
        go_wp2_with fail
        refine (ag_Fits a2 B.length c2 B z HWZ.out _ (HC2.out.below (Nat.le_refl _) HBBb.out)).mono ?_
        rintro e wb2 ⟨rfl, hb⟩
        have h1' := HR1b.out.later hb
        have h2' := HR2b.out.later hb
        have h3' := HCEb.out.later hb
        have h4' := HBBb.out.trans (hb.mono HBBb.out.size)
        clear hb HR1b HR2b HCEb HBBb
        have HR1b := Lib.hid h1'
        have HR2b := Lib.hid h2'
        have HCEb := Lib.hid h3'
        have HBBb := Lib.hid h4'
        clear h1' h2' h3' h4'
        cases hfb : fitsV B z
        · have HFB := Lib.hid hfb
          have HO2 : Hid (hs (fun h => fitsV A h && fitsV B h) (lh.take (k + 1)) = o2) := Lib.hid (by rw [HSUC.out, HFA.out, HFB.out, ← Ho2.out]; simp)
          have HO1 : Hid (hs (fitsV A) (lh.take (k + 1)) = o1 + 1) := Lib.hid (by rw [HSUC.out, HFA.out, ← Ho1.out]; simp)
          go_wp2_with fail
          have HPTS := Lib.hid (pts_le z)
          refine (ag_Points z HWZ.out _).mono ?_
          rintro e w' ⟨rfl, rfl⟩
          have hp40 := HPTS.out
          have hp41 : ptsM z < 41 := by omega
          have htp := (HR1b.out.cell (ptsM z)).trans (tab_get 41 _ (ptsM z) hp41)
          have hfp := HR1b.out.frozen (ptsM z)
          have hsp : Row (wb2.setCell ⟨b1, ptsM z, none⟩ (.int .i64 ((hs (fun h => fitsV A h && decide (ptsM h = ptsM z)) (lh.take k) + 1 : Nat) : Int))) b1 3 (tab 41 (fun j => hs (fun h => fitsV A h && decide (ptsM h = j)) (lh.take (k + 1)))) := by
            rw [tab_hs 41 (fitsV A) ptsM lh k (by have := HNL.out; omega) (by rw [HZ1.out]; exact HFA.out), HZ1.out, ← tab_set]
            exact HR1b.out.set _ _
          have hslp : Row (wb2.setCell ⟨b1, ptsM z, none⟩ (.int .i64 ((hs (fun h => fitsV A h && decide (ptsM h = ptsM z)) (lh.take k) + 1 : Nat) : Int))) b2 3 (tab 14 (fun j => hs (fun h => fitsV A h && decide (lensM h s = j)) (lh.take k))) := HR2b.out.other (fun e => HNE.out e.symm)
          have hcep : CellsQ (wb2.setCell ⟨b1, ptsM z, none⟩ (.int .i64 ((hs (fun h => fitsV A h && decide (ptsM h = ptsM z)) (lh.take k) + 1 : Nat) : Int))) g lh := HCEb.out.set (by have := HLB.out.1; omega) _ _
          have hbbp : Below w2.heap.size w2 (wb2.setCell ⟨b1, ptsM z, none⟩ (.int .i64 ((hs (fun h => fitsV A h && decide (ptsM h = ptsM z)) (lh.take k) + 1 : Nat) : Int))) := HBBb.out.setCell HL1.out _
          have hvle : hs (fun h => fitsV A h && decide (ptsM h = ptsM z)) (lh.take k) ≤ 1048576 := Nat.le_trans (hs_le _ _) (by have := HNL.out; have := HN48.out; rw [List.length_take]; omega)
          generalize hs (fun h => fitsV A h && decide (ptsM h = ptsM z)) (lh.take k) = va at *
          generalize ptsM z = pz at *
          rw [show ((va + 1 : Nat) : Int) = (va : Int) + 1 by simp] at hsp hslp hcep hbbp
          obtain ⟨wd, hwd⟩ : ∃ wd, wb2.setCell ⟨b1, pz, none⟩ (.int .i64 ((va : Int) + 1)) = wd := ⟨_, rfl⟩
          rw [hwd] at hsp hslp hcep hbbp
          have HSP := Lib.hid hsp
          have HSL := Lib.hid hslp
          have HCE4 := Lib.hid hcep
          have HBB4 := Lib.hid hbbp
          clear hsp hslp hcep hbbp hp40
          have hp41i : (pz : Int) < 41 := by omega
          have hpz0 : decide ((pz : Int) < 0) = false := by simp
          have hpz1 : decide ((40 : Int) < (pz : Int)) = false := by simp; omega
          go_wp2_with fail
          rw [scards_val z s HWZ.out]
          have HLENS := Lib.hid (lens_le z s)
          refine (law_bits (scards z s) (by have := scards_lt z s; unfold W64; omega) _).mono ?_
          rintro e w' ⟨rfl, rfl⟩
          rw [show pop (scards z s) = lensM z s from rfl]
          have hl14 : lensM z s < 14 := by have := HLENS.out; omega
          have htl := (HSL.out.cell (lensM z s)).trans (tab_get 14 _ (lensM z s) hl14)
          have hfl := HSL.out.frozen (lensM z s)
          have hnl : Row (wd.setCell ⟨b2, lensM z s, none⟩ (.int .i64 ((hs (fun h => fitsV A h && decide (lensM h s = lensM z s)) (lh.take k) + 1 : Nat) : Int))) b2 3 (tab 14 (fun j => hs (fun h => fitsV A h && decide (lensM h s = j)) (lh.take (k + 1)))) := by
            rw [tab_hs 14 (fitsV A) (fun h => lensM h s) lh k (by have := HNL.out; omega) (by rw [HZ1.out]; exact HFA.out), HZ1.out, ← tab_set]
            exact HSL.out.set _ _
          have hnp : Row (wd.setCell ⟨b2, lensM z s, none⟩ (.int .i64 ((hs (fun h => fitsV A h && decide (lensM h s = lensM z s)) (lh.take k) + 1 : Nat) : Int))) b1 3 (tab 41 (fun j => hs (fun h => fitsV A h && decide (ptsM h = j)) (lh.take (k + 1)))) := HSP.out.other HNE.out
          have hnc : CellsQ (wd.setCell ⟨b2, lensM z s, none⟩ (.int .i64 ((hs (fun h => fitsV A h && decide (lensM h s = lensM z s)) (lh.take k) + 1 : Nat) : Int))) g lh := HCE4.out.set (by have := HLB.out.2; omega) _ _
          have hnb : Below w2.heap.size w2 (wd.setCell ⟨b2, lensM z s, none⟩ (.int .i64 ((hs (fun h => fitsV A h && decide (lensM h s = lensM z s)) (lh.take k) + 1 : Nat) : Int))) := HBB4.out.setCell HL2.out _
          have hvle2 : hs (fun h => fitsV A h && decide (lensM h s = lensM z s)) (lh.take k) ≤ 1048576 := Nat.le_trans (hs_le _ _) (by have := HNL.out; have := HN48.out; rw [List.length_take]; omega)
          generalize hs (fun h => fitsV A h && decide (lensM h s = lensM z s)) (lh.take k) = vb at *
          generalize lensM z s = lz at *
          rw [show ((vb + 1 : Nat) : Int) = (vb : Int) + 1 by simp] at hnl hnp hnc hnb
          have HNLr := Lib.hid hnl
          have HNPr := Lib.hid hnp
          have HNCr := Lib.hid hnc
          have HNBr := Lib.hid hnb
          clear hnl hnp hnc hnb
          have hl14i : (lz : Int) < 14 := by omega
          go_wp2_with fail
          exact ⟨⟨k + 1, by omega, by simp, by simp, by rw [HO1.out]; simp, by rw [HO2.out]; try simp, HNPr.out, HNLr.out, HNBr.out, .inr ⟨g, rfl, hgl, HNCr.out⟩⟩, by simp [intOf]; omega⟩
        · have HFB := Lib.hid hfb
          have HO2 : Hid (hs (fun h => fitsV A h && fitsV B h) (lh.take (k + 1)) = o2 + 1) := Lib.hid (by rw [HSUC.out, HFA.out, HFB.out, ← Ho2.out]; simp)
          have HO1 : Hid (hs (fitsV A) (lh.take (k + 1)) = o1 + 1) := Lib.hid (by rw [HSUC.out, HFA.out, ← Ho1.out]; simp)
          go_wp2_with fail
          have HPTS := Lib.hid (pts_le z)
          refine (ag_Points z HWZ.out _).mono ?_
          rintro e w' ⟨rfl, rfl⟩
          have hp40 := HPTS.out
          have hp41 : ptsM z < 41 := by omega
          have htp := (HR1b.out.cell (ptsM z)).trans (tab_get 41 _ (ptsM z) hp41)
          have hfp := HR1b.out.frozen (ptsM z)
          have hsp : Row (wb2.setCell ⟨b1, ptsM z, none⟩ (.int .i64 ((hs (fun h => fitsV A h && decide (ptsM h = ptsM z)) (lh.take k) + 1 : Nat) : Int))) b1 3 (tab 41 (fun j => hs (fun h => fitsV A h && decide (ptsM h = j)) (lh.take (k + 1)))) := by
            rw [tab_hs 41 (fitsV A) ptsM lh k (by have := HNL.out; omega) (by rw [HZ1.out]; exact HFA.out), HZ1.out, ← tab_set]
            exact HR1b.out.set _ _
          have hslp : Row (wb2.setCell ⟨b1, ptsM z, none⟩ (.int .i64 ((hs (fun h => fitsV A h && decide (ptsM h = ptsM z)) (lh.take k) + 1 : Nat) : Int))) b2 3 (tab 14 (fun j => hs (fun h => fitsV A h && decide (lensM h s = j)) (lh.take k))) := HR2b.out.other (fun e => HNE.out e.symm)
          have hcep : CellsQ (wb2.setCell ⟨b1, ptsM z, none⟩ (.int .i64 ((hs (fun h => fitsV A h && decide (ptsM h = ptsM z)) (lh.take k) + 1 : Nat) : Int))) g lh := HCEb.out.set (by have := HLB.out.1; omega) _ _
          have hbbp : Below w2.heap.size w2 (wb2.setCell ⟨b1, ptsM z, none⟩ (.int .i64 ((hs (fun h => fitsV A h && decide (ptsM h = ptsM z)) (lh.take k) + 1 : Nat) : Int))) := HBBb.out.setCell HL1.out _
          have hvle : hs (fun h => fitsV A h && decide (ptsM h = ptsM z)) (lh.take k) ≤ 1048576 := Nat.le_trans (hs_le _ _) (by have := HNL.out; have := HN48.out; rw [List.length_take]; omega)
          generalize hs (fun h => fitsV A h && decide (ptsM h = ptsM z)) (lh.take k) = va at *
          generalize ptsM z = pz at *
          rw [show ((va + 1 : Nat) : Int) = (va : Int) + 1 by simp] at hsp hslp hcep hbbp
          obtain ⟨wd, hwd⟩ : ∃ wd, wb2.setCell ⟨b1, pz, none⟩ (.int .i64 ((va : Int) + 1)) = wd := ⟨_, rfl⟩
          rw [hwd] at hsp hslp hcep hbbp
          have HSP := Lib.hid hsp
          have HSL := Lib.hid hslp
          have HCE4 := Lib.hid hcep
          have HBB4 := Lib.hid hbbp
          clear hsp hslp hcep hbbp hp40
          have hp41i : (pz : Int) < 41 := by omega
          have hpz0 : decide ((pz : Int) < 0) = false := by simp
          have hpz1 : decide ((40 : Int) < (pz : Int)) = false := by simp; omega
          go_wp2_with fail
          rw [scards_val z s HWZ.out]
          have HLENS := Lib.hid (lens_le z s)
          refine (law_bits (scards z s) (by have := scards_lt z s; unfold W64; omega) _).mono ?_
          rintro e w' ⟨rfl, rfl⟩
          rw [show pop (scards z s) = lensM z s from rfl]
          have hl14 : lensM z s < 14 := by have := HLENS.out; omega
          have htl := (HSL.out.cell (lensM z s)).trans (tab_get 14 _ (lensM z s) hl14)
          have hfl := HSL.out.frozen (lensM z s)
          have hnl : Row (wd.setCell ⟨b2, lensM z s, none⟩ (.int .i64 ((hs (fun h => fitsV A h && decide (lensM h s = lensM z s)) (lh.take k) + 1 : Nat) : Int))) b2 3 (tab 14 (fun j => hs (fun h => fitsV A h && decide (lensM h s = j)) (lh.take (k + 1)))) := by
            rw [tab_hs 14 (fitsV A) (fun h => lensM h s) lh k (by have := HNL.out; omega) (by rw [HZ1.out]; exact HFA.out), HZ1.out, ← tab_set]
            exact HSL.out.set _ _
          have hnp : Row (wd.setCell ⟨b2, lensM z s, none⟩ (.int .i64 ((hs (fun h => fitsV A h && decide (lensM h s = lensM z s)) (lh.take k) + 1 : Nat) : Int))) b1 3 (tab 41 (fun j => hs (fun h => fitsV A h && decide (ptsM h = j)) (lh.take (k + 1)))) := HSP.out.other HNE.out
          have hnc : CellsQ (wd.setCell ⟨b2, lensM z s, none⟩ (.int .i64 ((hs (fun h => fitsV A h && decide (lensM h s = lensM z s)) (lh.take k) + 1 : Nat) : Int))) g lh := HCE4.out.set (by have := HLB.out.2; omega) _ _
          have hnb : Below w2.heap.size w2 (wd.setCell ⟨b2, lensM z s, none⟩ (.int .i64 ((hs (fun h => fitsV A h && decide (lensM h s = lensM z s)) (lh.take k) + 1 : Nat) : Int))) := HBB4.out.setCell HL2.out _
          have hvle2 : hs (fun h => fitsV A h && decide (lensM h s = lensM z s)) (lh.take k) ≤ 1048576 := Nat.le_trans (hs_le _ _) (by have := HNL.out; have := HN48.out; rw [List.length_take]; omega)
          generalize hs (fun h => fitsV A h && decide (lensM h s = lensM z s)) (lh.take k) = vb at *
          generalize lensM z s = lz at *
          rw [show ((vb + 1 : Nat) : Int) = (vb : Int) + 1 by simp] at hnl hnp hnc hnb
          have HNLr := Lib.hid hnl
          have HNPr := Lib.hid hnp
          have HNCr := Lib.hid hnc
          have HNBr := Lib.hid hnb
          clear hnl hnp hnc hnb
          have hl14i : (lz : Int) < 14 := by omega
          go_wp2_with fail
          exact ⟨⟨k + 1, by omega, by simp, by simp, by rw [HO1.out]; simp, by rw [HO2.out]; try simp, HNPr.out, HNLr.out, HNBr.out, .inr ⟨g, rfl, hgl, HNCr.out⟩⟩, by simp [intOf]; omega⟩
    · obtain rfl : k = N := by omega
      have hfull : lh.take k = lh := List.take_of_length_le (by have := HNL.out; omega)
      rw [hfull] at HR1b HR2b ⊢
      rw [HFIT.out, HBOTH.out]
      have hf1 : (fun j => hs (fun h => fitsV A h && decide (ptsM h = j)) lh) = spV L nn A := funext HPT.out
      have hf2 : (fun j => hs (fun h => fitsV A h && decide (lensM h s = j)) lh) = lnV L nn A s := funext HLN.out
      rw [hf1] at HR1b
      rw [hf2] at HR2b
      clear hfull hf1 hf2 HFIT HBOTH HPT HLN HSUB HGb HG3 HR13 HR23 HB3 HNL
      have HAb := Lib.hid (HA2.out.below (Nat.le_refl _) HBBb.out)
      have HCb := Lib.hid (HC2.out.below (Nat.le_refl _) HBBb.out)
      have HBb := Lib.hid (HB2.out.trans (HBBb.out.mono HB2.out.size))
      clear HA2 HC2 HB2 HBBb HBC
      obtain ⟨E, HE⟩ : ∃ E, Hid (cntF (deck L) nn (fitP A) = E) := ⟨_, Lib.hid rfl⟩
      obtain ⟨F, HF⟩ : ∃ E, Hid (cntF (deck L) nn (fun l p => fitP A l p && fitP B l p) = E) := ⟨_, Lib.hid rfl⟩
      obtain ⟨f, Hf⟩ : ∃ f, Hid (spV L nn A = f) := ⟨_, Lib.hid rfl⟩
      obtain ⟨h, Hh⟩ : ∃ f, Hid (lnV L nn A s = f) := ⟨_, Lib.hid rfl⟩
      rw [Hf.out] at HR1b
      rw [Hh.out] at HR2b
      rw [HE.out, HF.out]
      go_wp2_with fail
      refine (ag_TotalOk L (nn : Int) HPL.out (by omega) (by have := HN.out; omega) _).mono ?_
      rintro e w' ⟨rfl, rfl⟩
      rw [Int.toNat_natCast, ← HALL.out]
      go_wp2_with fail
      refine (ag_CountOk L (nn : Int) HPL.out (by omega) (by have := HN.out; omega) a1 A.length c1 A KA.out _ HAb.out).mono ?_
      rintro e w4 ⟨rfl, hb⟩
      rw [Int.toNat_natCast, HE.out]
      have HA4 := Lib.hid (HAb.out.below (Nat.le_refl _) hb)
      have HC4 := Lib.hid (HCb.out.below (Nat.le_refl _) hb)
      have HB4 := Lib.hid (HBb.out.trans (hb.mono HBb.out.size))
      have HP4 := Lib.hid (HR1b.out.later hb)
      have HL4 := Lib.hid (HR2b.out.later hb)
      clear hb HAb HCb HBb HR1b HR2b
      go_wp2_with fail
      refine (ag_GivenOk L (nn : Int) HPL.out (by omega) (by have := HN.out; omega) a1 a2 A.length c1 B.length c2 A B KA.out KB.out _ HA4.out HC4.out).mono ?_
      rintro e w5 ⟨rfl, hb⟩
      rw [Int.toNat_natCast, HE.out, HF.out]
      have HA5 := Lib.hid (HA4.out.below (Nat.le_refl _) hb)
      have HB5 := Lib.hid (HB4.out.trans (hb.mono HB4.out.size))
      have HP5 := Lib.hid (HP4.out.later hb)
      have HL5 := Lib.hid (HL4.out.later hb)
      clear hb HA4 HC4 HB4 HP4 HL4
      go_wp2_with fail
      refine (ag_SpreadOk L (nn : Int) HPL.out (by omega) (by have := HN.out; omega) a1 A.length c1 A KA.out _ HA5.out).mono ?_
      rintro e w6 ⟨⟨bu, rfl, hbu, hu⟩, hb⟩
      rw [Int.toNat_natCast, Hf.out] at hu
      have HA6 := Lib.hid (HA5.out.below (Nat.le_refl _) hb)
      have HB6 := Lib.hid (HB5.out.trans (hb.mono HB5.out.size))
      have HP6 := Lib.hid (HP5.out.later hb)
      have HL6 := Lib.hid (HL5.out.later hb)
      have HU6 := Lib.hid hu
      clear hb HA5 HB5 HP5 HL5 hu hbu
      go_wp2_with fail
      refine (ag_LengthsOk L (nn : Int) HPL.out (by omega) (by have := HN.out; omega) a1 A.length c1 A KA.out s hs4 _ HA6.out).mono ?_
      rintro e w7 ⟨⟨bv, rfl, hbv, hv⟩, hb⟩
      rw [Int.toNat_natCast, Hh.out] at hv
      have HB7 := Lib.hid (HB6.out.trans (hb.mono HB6.out.size))
      have HP7 := Lib.hid (HP6.out.later hb)
      have HL7 := Lib.hid (HL6.out.later hb)
      have HU7 := Lib.hid (HU6.out.later hb)
      have HV7 := Lib.hid hv
      clear hb HA6 HB6 HP6 HL6 HU6 hv hbv
      go_wp2_with fail
      go_loopw [176] (fun i wr => ∃ (k : Nat), k ≤ 41 ∧ i = .int .i64 (k : Int) ∧ Below w7.heap.size w7 wr) (fun i _ => 41 - (intOf i).toNat)
      case atStart => exact ⟨0, by omega, rfl, Below.refl _ _⟩
      case round =>
        obtain ⟨j, hj, rfl, hbj⟩ := hrel
        by_cases hlt2 : j < 41
        · have hd2 : decide ((j : Int) < 41) = true := by simp; omega
          have hj2 : (j : Int) < 41 := by omega
          have hc1 := ((HP7.out.later hbj).cell j).trans (tab_get 41 f j hlt2)
          have hc2 := ((HU7.out.later hbj).cell j).trans (tab_get 41 f j hlt2)
          have hr1 := fun dd os => cell_regrown hc1 dd os
          have hr2 := fun dd os => cell_regrown hc2 dd os
          by_cases hlt3 : j < 14
          · have hj3 : (j : Int) < 14 := by omega
            have hc3 := ((HL7.out.later hbj).cell j).trans (tab_get 14 h j hlt3)
            have hc4 := ((HV7.out.later hbj).cell j).trans (tab_get 14 h j hlt3)
            have hr3 := fun dd os => cell_regrown hc3 dd os
            have hr4 := fun dd os => cell_regrown hc4 dd os
            have HBJ := Lib.hid hbj
            clear hbj
            generalize f j = y at *
            generalize h j = x at *
            go_wp2_with fail
            refine wp_region_quiet_below (by kernel_rfl) (by kernel_rfl) ?_
            repeat (first | go_big_quiet_step (fail) | quiet_step (fail))
            refine wpQuiet_nil ?_
            rintro _ ⟨p, rfl⟩
            have hb := below_regrown wr p.d p.os
            have HBJ2 := Lib.hid (HBJ.out.trans (hb.mono HBJ.out.size))
            generalize grow (redrawn wr p.d) p.os = wa at *
            clear hb hr1 hr2 hr3 hr4
            go_wp2_with fail
            exact ⟨⟨j + 1, by omega, by simp, HBJ2.out⟩, by simp [intOf]; omega⟩
          · have hj3 : decide ((j : Int) < 14) = false := by simp; omega
            have HBJ := Lib.hid hbj
            clear hbj
            generalize f j = y at *
            go_wp2_with fail
            refine wp_region_quiet_below (by kernel_rfl) (by kernel_rfl) ?_
            repeat (first | go_big_quiet_step (fail) | quiet_step (fail))
            refine wpQuiet_nil ?_
            rintro _ ⟨p, rfl⟩
            have hb := below_regrown wr p.d p.os
            have HBJ2 := Lib.hid (HBJ.out.trans (hb.mono HBJ.out.size))
            generalize grow (redrawn wr p.d) p.os = wa at *
            clear hb hr1 hr2
            go_wp2_with fail
            exact ⟨⟨j + 1, by omega, by simp, HBJ2.out⟩, by simp [intOf]; omega⟩
        · obtain rfl : j = 41 := by omega
          simp only [show ((41 : Nat) : Int) = 41 from rfl]
          go_wp2_with fail
          refine (law40_awake _).mono ?_
          rintro e w8 ⟨rfl, hb8⟩
          have HB8 := Lib.hid ((HB7.out.trans (hbj.mono HB7.out.size)).trans (hb8.mono (HB7.out.trans (hbj.mono HB7.out.size)).size))
          clear hb8
          go_wp2_with fail
          go_ret
          exact ⟨rfl, HB8.out⟩
end Go.Proofs.Ytmkplfndbjcflaa
