/- SignalCounts over this seat's program: the body. -/
import Derived.Test.YtikdkhiehfccpaaSgQ
import Derived.Deep.CutRange
namespace Go.Proofs.Ytikdkhiehfccpaa
open Go.RowKit Go.Sort Go.Shelf Cnt

set_option maxHeartbeats 4000000 in
set_option maxRecDepth 10000 in
theorem law_SignalCounts (al : Option Addr) (ll cl : Nat) (zs : List Nat) (n : Nat) (ax : Option Addr) (lx cx : Nat) (css : List (List Cd)) (az : Option Addr) (lz cz : Nat) (ss : List Nat) (ay : Option Addr) (ly cy : Nat) (ds : List Cd) (w : World)
    (hz : Byt w al ll zs) (hlc : ll ≤ cl) (hn : n < 256) (hx : Cdss w ax lx css) (hlx : lx ≤ cx) (hss : Byt w az lz ss) (_ : lz ≤ cz) (hy : Cds w ay ly ds) (hly : ly ≤ cy) :
    Calls Try.prog 8 #[.slice al ll cl, .int .u8 (n : Int), .slice ax lx cx, .slice az lz cz, .slice ay ly cy] w fun e w' => e = .returned (.bool true) ∧ Below w.heap.size w w' := by
  have HZ := Lib.hid hz
  have HX := Lib.hid hx
  have HY := Lib.hid hy
  have HS := Lib.hid hss
  have hnn : (n : Int) % 7 = ((n % 7 : Nat) : Int) := by omega
  have HN := Lib.hid (show n % 7 ≤ 6 by omega)
  generalize n % 7 = nn at *
  clear hx hy hz hss
  have KA := Lib.hid (made_ok ds)
  have LA := Lib.hid (made_len ds)
  generalize hma : made ds = A at *
  have KL := Lib.hid (made41_right css ss)
  have LL := Lib.hid (made41_len css ss)
  generalize hml : made41 css ss = ls at *
  have HPL := Lib.hid (litTo_lt zs (min ll 11))
  have HPP : Hid (pop (litTo zs (min ll 11)) ≤ 11) := Lib.hid (Nat.le_trans (litTo_pop zs _) (by omega))
  obtain ⟨L, HL⟩ : ∃ L, Hid (litTo zs (min ll 11) = L) := ⟨_, Lib.hid rfl⟩
  rw [HL.out] at HPL HPP
  go_enter Try.func8, Try.ntmps8
  go_wp2_with fail
  refine (law41_Made ax lx cx css az lz cz ss _ HX.out hlx HS.out).mono ?_
  rintro e w1 ⟨⟨v1, ps, rfl, hv1, hps⟩, hb1⟩
  rw [hml] at hps
  have hpl : ps.length ≤ 5 := by have := LL.out; rw [← hps, rlsOf_len] at this; exact this
  obtain ⟨a1, c1, rfl, hR1, -⟩ := hv1.rls (by omega)
  rw [hps] at hR1
  have HR1 := Lib.hid hR1
  have HB1 := Lib.hid hb1
  have HY1 := Lib.hid (HY.out.below (Nat.le_refl _) hb1)
  have HZ1 := Lib.hid (HZ.out.below (Nat.le_refl _) hb1)
  generalize ps.length = pl at *
  clear hv1 hR1 hb1 hml hps
  go_wp2_with fail
  refine (law_Made ay ly cy ds _ HY1.out hly).mono ?_
  rintro e w2 ⟨⟨v2, rfl, hv2⟩, hb2⟩
  rw [hma] at hv2
  obtain ⟨a2, c2, rfl, hR2, hle2, hn2⟩ := hv2.rgs (by have := LA.out; omega)
  have HA2 := Lib.hid (HR1.out.below (Nat.le_refl _) hb2)
  have HC2 := Lib.hid hR2
  have HB2 := Lib.hid (HB1.out.trans (hb2.mono HB1.out.size))
  have HZ2 := Lib.hid (HZ1.out.below (Nat.le_refl _) hb2)
  clear hv2 hR2 hb2 hle2 hn2 hma HR1 HB1 HY1 HZ1
  go_wp2_with fail
  refine (law41_hands al ll cl zs nn _ HZ2.out hlc).mono ?_
  rintro e w3 ⟨⟨v3, rfl, hv3⟩, hb3⟩
  rw [HL.out] at hv3 ⊢
  have HSUB : Hid (∀ k, k < (handsL L nn).length → W64 ((handsL L nn).getD k 0)) := Lib.hid fun k hk => by
    rw [getD_eq' _ _ hk]
    have h1 := List.getElem_mem hk
    have := subs_52 (L := L) (k := 52) (by omega) (List.mem_filter.1 (show _ ∈ (subs L 52).filter _ from h1)).1
    unfold W64; omega
  have HALL := Lib.hid (hs_all HPL.out nn)
  have HSG := Lib.hid (fun j => hs_sig HPL.out nn KL.out j)
  have HSA := Lib.hid (fun j => hs_sigA HPL.out nn KL.out A j)
  have hN48 : (handsL L nn).length ≤ 1048576 := by
    rw [HALL.out]
    exact Nat.le_trans (chs_le _ _) (Nat.le_trans (Nat.pow_le_pow_right (n := 2) (by decide) (show pop L ≤ 20 by have := HPP.out; omega)) (by decide))
  generalize handsL L nn = lh at *
  obtain ⟨N, HNL⟩ : ∃ N, Hid (lh.length = N) := ⟨_, Lib.hid rfl⟩
  have HN48 : Hid (N ≤ 1048576) := Lib.hid (by rw [← HNL.out]; exact hN48)
  have hform : ∃ a3 c3, v3 = .slice a3 N c3 ∧ (N = 0 ∨ ∃ g, a3 = some ⟨g, 0, none⟩ ∧ g < w3.heap.size ∧ CellsQ w3 g lh) := by
    rcases hv3.form with ⟨h1, h2⟩ | ⟨g, cap, h1, h2, _⟩
    · refine ⟨none, 0, ?_, .inl ?_⟩
      · rw [h1, ← HNL.out, h2]; rfl
      · rw [← HNL.out, h2]; rfl
    · subst h1
      exact ⟨_, cap, by rw [HNL.out], .inr ⟨g, rfl, (CellsQ.of hv3).1, CellsQ.of hv3⟩⟩
  obtain ⟨a3, c3, rfl, hg3⟩ := hform
  have HG3 := Lib.hid hg3
  have HA3 := Lib.hid (HA2.out.below (Nat.le_refl _) hb3)
  have HC3 := Lib.hid (HC2.out.below (Nat.le_refl _) hb3)
  have HB3 := Lib.hid (HB2.out.trans (hb3.mono HB2.out.size))
  clear hv3 hg3 hb3 hN48 HA2 HC2 HB2
  rw [HNL.out] at HSUB HALL
  have hmk : ∀ w1 : World, (Instr.makeSlice 64 (.int .i64 10) (.int .i64 10)).run Try.prog w1 = .ok (.slice (some ⟨w1.heap.size, 0, none⟩) 10 10) (w1.alloc (.cells (tab 10 fun _ => 0) 3)) := make_ints 10 (by decide)
  go_upto_region 3 with fail
  go_cut [16, 17] from 41 to 42 (fun v u w' => ∃ b1 b2, v = .slice (some ⟨b1, 0, none⟩) 10 10 ∧ u = .slice (some ⟨b2, 0, none⟩) 10 10 ∧ Row w' b1 3 (tab 10 fun _ => 0) ∧ Row w' b2 3 (tab 10 fun _ => 0) ∧ b1 ≠ b2 ∧ w3.heap.size ≤ b1 ∧ w3.heap.size ≤ b2 ∧ Below w3.heap.size w3 w')
  case first =>
    go_region
    all_goals go_wp2_with fail
    all_goals go_meet
    · refine ⟨w3.heap.size, w3.heap.size + 1, rfl, rfl, ?_, ?_, by omega, by omega, by omega, ?_⟩
      · exact ((Row.new w3 _ _).alloc _).later (Below.refl _ _).drew
      · exact (Row.new1 w3 _ _ _).later (Below.refl _ _).drew
      · exact (((Below.refl _ _).alloc (Nat.le_refl _) _).alloc (by simp) _).drew
    · refine ⟨w3.heap.size + 1, w3.heap.size, rfl, rfl, ?_, ?_, by omega, by omega, by omega, ?_⟩
      · exact (Row.new1 w3 _ _ _).later (Below.refl _ _).drew
      · exact ((Row.new w3 _ _).alloc _).later (Below.refl _ _).drew
      · exact (((Below.refl _ _).alloc (Nat.le_refl _) _).alloc (by simp) _).drew
  obtain ⟨b1, b2, rfl, rfl, hr1, hr2, hne, hl1, hl2, hbc⟩ := hcut
  have HR1 := Lib.hid hr1
  have HR2 := Lib.hid hr2
  have HNE := Lib.hid hne
  have HL1 := Lib.hid hl1
  have HL2 := Lib.hid hl2
  have HBC := Lib.hid hbc
  clear hr1 hr2 hne hl1 hl2 hbc hmk
  have hg4 : N = 0 ∨ ∃ g, a3 = some ⟨g, 0, none⟩ ∧ g < w3.heap.size ∧ CellsQ wc g lh := by
    rcases HG3.out with h | ⟨g, h1, h2, h3⟩
    · exact .inl h
    · exact .inr ⟨g, h1, h2, h3.later HBC.out⟩
  have HG4 := Lib.hid hg4
  clear hg4 HG3
  have h00 : tab 10 (fun j => hs (fun h => true && decide (ofN ls h = j)) (lh.take 0)) = tab 10 (fun _ => 0) := rfl
  have h01 : tab 10 (fun j => hs (fun h => fitsV A h && decide (ofN ls h = j)) (lh.take 0)) = tab 10 (fun _ => 0) := rfl
  go_wp2_with fail
  go_loopw [45] (fun i wr => ∃ (k : Nat), k ≤ N ∧ i = .int .i64 (k : Int) ∧
    Row wr b1 3 (tab 10 (fun j => hs (fun h => true && decide (ofN ls h = j)) (lh.take k))) ∧ Row wr b2 3 (tab 10 (fun j => hs (fun h => fitsV A h && decide (ofN ls h = j)) (lh.take k))) ∧ Below w3.heap.size w3 wr ∧
    (N = 0 ∨ ∃ g, a3 = some ⟨g, 0, none⟩ ∧ g < w3.heap.size ∧ CellsQ wr g lh)) (fun i _ => N - (intOf i).toNat)
  case atStart => exact ⟨0, by omega, rfl, h00 ▸ HR1.out, h01 ▸ HR2.out, HBC.out, HG4.out⟩
  case round =>
    obtain ⟨k, hk, rfl, hr1, hr2, hbw, hg⟩ := hrel
    clear h00 h01 HR1 HR2 HG4
    have HR1b := Lib.hid hr1
    have HR2b := Lib.hid hr2
    have HBBb := Lib.hid hbw
    have HGb := Lib.hid hg
    clear hr1 hr2 hbw hg
    by_cases hlt : k < N
    · have hd : decide ((k : Int) < (N : Int)) = true := by simp; omega
      rcases HGb.out with h0 | ⟨g, rfl, hgl, hce⟩
      · omega
      have HCEb := Lib.hid hce
      have HLB := Lib.hid (show g ≠ b1 ∧ g ≠ b2 by have := HL1.out; have := HL2.out; omega)
      have hcell := hce.2 k (by have := HNL.out; omega)
      have HWZ := Lib.hid (HSUB.out k hlt)
      obtain ⟨z, hz⟩ : ∃ z, lh.getD k 0 = z := ⟨_, rfl⟩
      rw [hz] at hcell HWZ
      have HZ1 := Lib.hid hz
      clear hz hce
      go_wp2_with fail
      refine (sg_Of a1 pl c1 ls z HWZ.out _ (HA3.out.below (Nat.le_refl _) HBBb.out)).mono ?_
      rintro e wb ⟨rfl, hb⟩
      have h1' := HR1b.out.later hb
      have h2' := HR2b.out.later hb
      have h3' := HCEb.out.later hb
      have h4' := HBBb.out.trans (hb.mono HBBb.out.size)
      clear hb HR1b HR2b HCEb HBBb
      have HR1b := Lib.hid h1'
      have HR2b := Lib.hid h2'
      have HCEb := Lib.hid h3'
      have HBBb := Lib.hid h4'
      clear h1' h2' h3' h4'
      obtain ⟨hof, hof9⟩ := ofN_eq KL.out z
      rw [hof]
      have hs10 : ofN ls z < 10 := by omega
      have htp := (HR1b.out.cell (ofN ls z)).trans (tab_get 10 _ (ofN ls z) hs10)
      have hfp := HR1b.out.frozen (ofN ls z)
      have hsp : Row (wb.setCell ⟨b1, ofN ls z, none⟩ (.int .i64 ((hs (fun h => true && decide (ofN ls h = ofN ls z)) (lh.take k) + 1 : Nat) : Int))) b1 3 (tab 10 (fun j => hs (fun h => true && decide (ofN ls h = j)) (lh.take (k + 1)))) := by
        rw [tab_hs 10 (fun _ => true) (ofN ls) lh k (by have := HNL.out; omega) rfl, HZ1.out, ← tab_set]
        exact HR1b.out.set _ _
      have hslp : Row (wb.setCell ⟨b1, ofN ls z, none⟩ (.int .i64 ((hs (fun h => true && decide (ofN ls h = ofN ls z)) (lh.take k) + 1 : Nat) : Int))) b2 3 (tab 10 (fun j => hs (fun h => fitsV A h && decide (ofN ls h = j)) (lh.take k))) := HR2b.out.other (fun e => HNE.out e.symm)
      have hcep : CellsQ (wb.setCell ⟨b1, ofN ls z, none⟩ (.int .i64 ((hs (fun h => true && decide (ofN ls h = ofN ls z)) (lh.take k) + 1 : Nat) : Int))) g lh := HCEb.out.set (fun e => HLB.out.1 e.symm) _ _
      have hbbp : Below w3.heap.size w3 (wb.setCell ⟨b1, ofN ls z, none⟩ (.int .i64 ((hs (fun h => true && decide (ofN ls h = ofN ls z)) (lh.take k) + 1 : Nat) : Int))) := HBBb.out.setCell HL1.out _
      have hvle : hs (fun h => true && decide (ofN ls h = ofN ls z)) (lh.take k) ≤ 1048576 := Nat.le_trans (hs_le _ _) (by have := HNL.out; have := HN48.out; rw [List.length_take]; omega)
      have hfl0 : hs (fun h => fitsV A h && decide (ofN ls h = ofN ls z)) (lh.take k) ≤ 1048576 := Nat.le_trans (hs_le _ _) (by have := HNL.out; have := HN48.out; rw [List.length_take]; omega)
      generalize hs (fun h => true && decide (ofN ls h = ofN ls z)) (lh.take k) = va at *
      rw [show ((va + 1 : Nat) : Int) = (va : Int) + 1 by simp] at hsp hslp hcep hbbp
      have HFZ : Hid (∀ wd, Row wd b2 3 (tab 10 (fun j => hs (fun h => fitsV A h && decide (ofN ls h = j)) (lh.take k))) → fitsV A z = true → Row (wd.setCell ⟨b2, ofN ls z, none⟩ (.int .i64 ((hs (fun h => fitsV A h && decide (ofN ls h = ofN ls z)) (lh.take k) + 1 : Nat) : Int))) b2 3 (tab 10 (fun j => hs (fun h => fitsV A h && decide (ofN ls h = j)) (lh.take (k + 1))))) := Lib.hid fun wd hr hf => by
        rw [tab_hs 10 (fitsV A) (ofN ls) lh k (by have := HNL.out; omega) (by rw [HZ1.out]; exact hf), HZ1.out, ← tab_set]
        exact hr.set _ _
      have HGT : Hid (∀ wd, Row wd b2 3 (tab 10 (fun j => hs (fun h => fitsV A h && decide (ofN ls h = j)) (lh.take k))) → wd.cell? ⟨b2, ofN ls z, none⟩ = some (.int .i64 ((hs (fun h => fitsV A h && decide (ofN ls h = ofN ls z)) (lh.take k) : Nat) : Int)) ∧ wd.frozen? ⟨b2, ofN ls z, none⟩ = false) := Lib.hid fun wd hr => ⟨(hr.cell (ofN ls z)).trans (tab_get 10 _ (ofN ls z) hs10), hr.frozen _⟩
      generalize hs (fun h => fitsV A h && decide (ofN ls h = ofN ls z)) (lh.take k) = vb at *
      generalize ofN ls z = j at *
      obtain ⟨wd, hwd⟩ : ∃ wd, wb.setCell ⟨b1, j, none⟩ (.int .i64 ((va : Int) + 1)) = wd := ⟨_, rfl⟩
      rw [hwd] at hsp hslp hcep hbbp
      have HSP := Lib.hid hsp
      have HSL := Lib.hid hslp
      have HCE4 := Lib.hid hcep
      have HBB4 := Lib.hid hbbp
      clear hsp hslp hcep hbbp hof
      have hkle : k ≤ 1048576 := by have := HN48.out; omega
      have hj10 : (j : Int) < 10 := by omega
      have hj0 : decide ((j : Int) < 0) = false := by simp
      have hj9 : decide ((9 : Int) < (j : Int)) = false := by simp; omega
      go_wp2_with fail
      refine (ag_Fits a2 A.length c2 A z HWZ.out _ (HC3.out.below (Nat.le_refl _) HBB4.out)).mono ?_
      rintro e we ⟨rfl, hb⟩
      have h1' := HSP.out.later hb
      have h2' := HSL.out.later hb
      have h3' := HCE4.out.later hb
      have h4' := HBB4.out.trans (hb.mono HBB4.out.size)
      clear hb HSP HSL HCE4 HBB4 htp hfp
      have HSP := Lib.hid h1'
      have HSL := Lib.hid h2'
      have HCE4 := Lib.hid h3'
      have HBB4 := Lib.hid h4'
      clear h1' h2' h3' h4'
      cases hfa : fitsV A z
      · have HFA := Lib.hid hfa
        go_wp2_with fail
        refine ⟨⟨k + 1, by omega, by simp, HSP.out, ?_, HBB4.out, .inr ⟨g, rfl, hgl, HCE4.out⟩⟩, by simp [intOf]; omega⟩
        rw [tab_hs' 10 (fitsV A) (ofN ls) lh k (by have := HNL.out; omega) (by rw [HZ1.out]; exact HFA.out)]
        exact HSL.out
      · obtain ⟨htl, hfl⟩ := HGT.out _ HSL.out
        have hnl := HFZ.out _ HSL.out hfa
        rw [show ((vb + 1 : Nat) : Int) = (vb : Int) + 1 by simp] at hnl
        have HNLr := Lib.hid hnl
        have HNPr : Hid (Row (we.setCell ⟨b2, j, none⟩ (.int .i64 ((vb : Int) + 1))) b1 3 (tab 10 (fun j => hs (fun h => true && decide (ofN ls h = j)) (lh.take (k + 1))))) := Lib.hid (HSP.out.other HNE.out)
        have HNCr : Hid (CellsQ (we.setCell ⟨b2, j, none⟩ (.int .i64 ((vb : Int) + 1))) g lh) := Lib.hid (HCE4.out.set (fun e => HLB.out.2 e.symm) _ _)
        have HNBr : Hid (Below w3.heap.size w3 (we.setCell ⟨b2, j, none⟩ (.int .i64 ((vb : Int) + 1)))) := Lib.hid (HBB4.out.setCell HL2.out _)
        clear hnl
        go_wp2_with fail
        exact ⟨⟨k + 1, by omega, by simp, HNPr.out, HNLr.out, HNBr.out, .inr ⟨g, rfl, hgl, HNCr.out⟩⟩, by simp [intOf]; omega⟩
    · obtain rfl : k = N := by omega
      have hfull : lh.take k = lh := List.take_of_length_le (by have := HNL.out; omega)
      rw [hfull] at HR1b HR2b
      have hf1 : (fun j => hs (fun h => true && decide (ofN ls h = j)) lh) = fun j => gvC (deck L) nn QT ls ((j : Nat) : Int) := funext HSG.out
      have hf2 : (fun j => hs (fun h => fitsV A h && decide (ofN ls h = j)) lh) = fun j => gvC (deck L) nn (fitP A) ls ((j : Nat) : Int) := funext HSA.out
      rw [hf1] at HR1b
      rw [hf2] at HR2b
      clear hfull hf1 hf2 HSG HSA HSUB HGb HNL
      have HAb := Lib.hid (HA3.out.below (Nat.le_refl _) HBBb.out)
      have HCb := Lib.hid (HC3.out.below (Nat.le_refl _) HBBb.out)
      have HBb := Lib.hid (HB3.out.trans (HBBb.out.mono HB3.out.size))
      clear HA3 HC3 HB3 HBBb HBC
      have HTD : Hid (∀ j, j ≤ 9 → tdV L (nn : Int) ls ((j : Nat) : Int) A = (gvC (deck L) nn QT ls ((j : Nat) : Int), gvC (deck L) nn (fitP A) ls ((j : Nat) : Int), 0)) := Lib.hid fun j hj => td_made HPL.out (by have := HN.out; omega) KL.out KA.out j hj
      have HCN : Hid (cnV L (nn : Int) ls = fun j => gvC (deck L) nn QT ls ((j : Nat) : Int)) := Lib.hid (by unfold cnV; rw [Int.toNat_natCast])
      obtain ⟨f, Hf⟩ : ∃ f, Hid ((fun j => gvC (deck L) nn QT ls ((j : Nat) : Int)) = f) := ⟨_, Lib.hid rfl⟩
      obtain ⟨h, Hh⟩ : ∃ f, Hid ((fun j => gvC (deck L) nn (fitP A) ls ((j : Nat) : Int)) = f) := ⟨_, Lib.hid rfl⟩
      rw [Hf.out] at HR1b HCN
      rw [Hh.out] at HR2b
      have HTD2 : Hid (∀ j, j ≤ 9 → tdV L (nn : Int) ls ((j : Nat) : Int) A = (f j, h j, 0)) := Lib.hid fun j hj => by rw [HTD.out j hj, ← Hf.out, ← Hh.out]
      have HW : Hid (W64 L) := Lib.hid (by have := HPL.out; unfold W64; omega)
      go_wp2_with fail
      refine (sg_Counts_yes L nn HPL.out (by have := HN.out; omega) a1 pl c1 ls _ HAb.out KL.out).mono ?_
      rintro e w4 ⟨⟨b3, rfl, hb3l, hr3⟩, hb⟩
      rw [HCN.out] at hr3
      have HA4 := Lib.hid (HAb.out.below (Nat.le_refl _) hb)
      have HC4 := Lib.hid (HCb.out.below (Nat.le_refl _) hb)
      have HB4 := Lib.hid (HBb.out.trans (hb.mono HBb.out.size))
      have HP4 := Lib.hid (HR1b.out.later hb)
      have HL4 := Lib.hid (HR2b.out.later hb)
      have HU4 := Lib.hid hr3
      clear hb HAb HCb HBb HR1b HR2b hr3 hb3l HCN
      go_wp2_with fail
      go_loopw [90] (fun i wr => ∃ (k : Nat), k ≤ 10 ∧ i = .int .i64 (k : Int) ∧ Below w4.heap.size w4 wr) (fun i _ => 10 - (intOf i).toNat)
      case atStart => exact ⟨0, by omega, rfl, Below.refl _ _⟩
      case round =>
        obtain ⟨j, hj, rfl, hbj⟩ := hrel
        by_cases hlt2 : j < 10
        · have hd2 : decide ((j : Int) < 10) = true := by simp; omega
          have hj2 : (j : Int) < 10 := by omega
          have HBJ := Lib.hid hbj
          clear hbj
          go_wp2_with fail
          refine (sg_ToldV L (nn : Int) a1 pl c1 ls (j : Int) a2 A.length c2 A HW.out _ (HA4.out.below (Nat.le_refl _) HBJ.out) (HC4.out.below (Nat.le_refl _) HBJ.out)).mono ?_
          rintro e w5 ⟨rfl, hb⟩
          rw [HTD2.out j (by omega)]
          have HBJ5 := Lib.hid (HBJ.out.trans (hb.mono HBJ.out.size))
          clear hb HBJ
          have hc1 := ((HP4.out.later HBJ5.out).cell j).trans (tab_get 10 f j hlt2)
          have hc2 := ((HL4.out.later HBJ5.out).cell j).trans (tab_get 10 h j hlt2)
          have hc3 := ((HU4.out.later HBJ5.out).cell j).trans (tab_get 10 f j hlt2)
          have hr1 := fun dd os => cell_regrown hc1 dd os
          have hr2 := fun dd os => cell_regrown hc2 dd os
          have hr3 := fun dd os => cell_regrown hc3 dd os
          generalize f j = y at *
          generalize h j = x at *
          go_wp2_with fail
          refine wp_region_quiet_below (by kernel_rfl) (by kernel_rfl) ?_
          repeat (first | go_big_quiet_step (fail) | quiet_step (fail))
          refine wpQuiet_nil ?_
          rintro _ ⟨p, rfl⟩
          have hb := below_regrown w5 p.d p.os
          have HBJ2 := Lib.hid (HBJ5.out.trans (hb.mono HBJ5.out.size))
          generalize grow (redrawn w5 p.d) p.os = wa at *
          clear hb hr1 hr2 hr3
          go_wp2_with fail
          exact ⟨⟨j + 1, by omega, by simp, HBJ2.out⟩, by simp [intOf]; omega⟩
        · obtain rfl : j = 10 := by omega
          simp only [show ((10 : Nat) : Int) = 10 from rfl]
          go_wp2_with fail
          refine (law41_awake _).mono ?_
          rintro e w8 ⟨rfl, hb8⟩
          have HB8 := Lib.hid ((HB4.out.trans (hbj.mono HB4.out.size)).trans (hb8.mono (HB4.out.trans (hbj.mono HB4.out.size)).size))
          clear hb8
          go_wp2_with fail
          go_ret
          exact ⟨rfl, HB8.out⟩
end Go.Proofs.Ytikdkhiehfccpaa
