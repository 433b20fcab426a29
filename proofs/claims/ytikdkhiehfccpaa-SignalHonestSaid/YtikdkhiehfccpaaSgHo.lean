/- SignalHonest over this seat's program: the body. -/
import Derived.Test.YtikdkhiehfccpaaMSgu
namespace Go.Proofs.Ytikdkhiehfccpaa
open Go.RowKit Go.Sort Go.Shelf Cnt

set_option maxHeartbeats 8000000 in
set_option maxRecDepth 10000 in
theorem law_SignalHonest (al : Option Addr) (ll cl : Nat) (zs : List Nat) (n : Nat) (ax : Option Addr) (lx cx : Nat) (css : List (List Cd)) (az : Option Addr) (lz cz : Nat) (ss : List Nat) (least most : Nat) (w : World)
    (hz : Byt w al ll zs) (hlc : ll ≤ cl) (hn : n < 256) (hx : Cdss w ax lx css) (hlx : lx ≤ cx) (hss : Byt w az lz ss) (_ : lz ≤ cz) (hle : least < 65536) (hmo : most < 65536) :
    Calls Try.prog 4 #[.slice al ll cl, .int .u8 (n : Int), .slice ax lx cx, .slice az lz cz, .int .u16 (least : Int), .int .u16 (most : Int)] w fun e w' => e = .returned (.bool true) ∧ Below w.heap.size w w' := by
  have HZ := Lib.hid hz
  have HX := Lib.hid hx
  have HS := Lib.hid hss
  have hnn : (n : Int) % 7 = ((n % 7 : Nat) : Int) := by omega
  have HN := Lib.hid (show n % 7 ≤ 6 by omega)
  generalize n % 7 = nn at *
  have hl1 : (least : Int) % 1001 = ((least % 1001 : Nat) : Int) := by omega
  have HL1 := Lib.hid (show least % 1001 ≤ 1000 by omega)
  generalize least % 1001 = lo0 at *
  have hm1 : (most : Int) % 1001 = ((most % 1001 : Nat) : Int) := by omega
  have HM1 := Lib.hid (show most % 1001 ≤ 1000 by omega)
  generalize most % 1001 = hi0 at *
  clear hx hz hss
  have KL := Lib.hid (made41_right css ss)
  have LL := Lib.hid (made41_len css ss)
  have KS : Hid (∀ x ∈ made41 css ss, 1 ≤ x.s ∧ x.s ≤ 4) := Lib.hid (mdL_sig css ss _)
  generalize hml : made41 css ss = ls at *
  have HPL := Lib.hid (litTo_lt zs (min ll 11))
  have HPP : Hid (pop (litTo zs (min ll 11)) ≤ 11) := Lib.hid (Nat.le_trans (litTo_pop zs _) (by omega))
  obtain ⟨L, HL⟩ : ∃ L, Hid (litTo zs (min ll 11) = L) := ⟨_, Lib.hid rfl⟩
  rw [HL.out] at HPL HPP
  go_enter Try.func4, Try.ntmps4
  go_wp2_with fail
  refine (law41_Made ax lx cx css az lz cz ss _ HX.out hlx HS.out).mono ?_
  rintro e w1 ⟨⟨v1, ps, rfl, hv1, hps⟩, hb1⟩
  rw [hml] at hps
  have hpl : ps.length ≤ 5 := by have := LL.out; rw [← hps, rlsOf_len] at this; exact this
  obtain ⟨a1, c1, rfl, hR1, -⟩ := hv1.rls (by omega)
  rw [hps] at hR1
  have HR1 := Lib.hid hR1
  have HB1 := Lib.hid hb1
  have HZ1 := Lib.hid (HZ.out.below (Nat.le_refl _) hb1)
  generalize ps.length = pl at *
  clear hv1 hR1 hb1 hml hps HX HS HZ
  go_wp2_with fail
  refine (law41_hands al ll cl zs nn _ HZ1.out hlc).mono ?_
  rintro e w2 ⟨⟨v3, rfl, hv3⟩, hb2⟩
  rw [HL.out] at hv3 ⊢
  have HALL : Hid ((handsL L nn).length = cntF (deck L) nn QT) := Lib.hid (by rw [hs_all HPL.out nn, cnt_true, deck_pop HPL.out])
  have hN48 : (handsL L nn).length ≤ 1048576 := by
    rw [hs_all HPL.out nn]
    exact Nat.le_trans (chs_le _ _) (Nat.le_trans (Nat.pow_le_pow_right (n := 2) (by decide) (show pop L ≤ 20 by have := HPP.out; omega)) (by decide))
  obtain ⟨a3, c3, rfl, -⟩ := hv3.slice
  obtain ⟨T, HT⟩ : ∃ T, Hid ((handsL L nn).length = T) := ⟨_, Lib.hid rfl⟩
  rw [HT.out] at HALL hN48 ⊢
  have HTB := Lib.hid hN48
  have HA2 := Lib.hid (HR1.out.below (Nat.le_refl _) hb2)
  have HB2 := Lib.hid (HB1.out.trans (hb2.mono HB1.out.size))
  clear hv3 hb2 hN48 HZ1 HB1 HR1 HT HL
  go_upto_if 61 with fail
  go_cut [17, 18] from 59 to 63 (fun lv hv wx => ∃ lo hi : Nat, lo ≤ hi ∧ hi ≤ 1000 ∧ lv = .int .i64 (lo : Int) ∧ hv = .int .i64 (hi : Int) ∧ w2 = wx)
  case first =>
    have h1 := HL1.out
    have h2 := HM1.out
    by_cases h : hi0 < lo0
    · have g1 : decide ((hi0 : Int) < (lo0 : Int)) = true := by simp; omega
      have g2 : decide (hi0 < lo0) = true := decide_eq_true h
      go_wp2_with fail
      go_meet
      exact ⟨hi0, lo0, by omega, h1, by first | rfl | rw [hm1], by first | rfl | rw [hl1], rfl⟩
    · have g1 : decide ((hi0 : Int) < (lo0 : Int)) = false := by simp; omega
      have g2 : decide (hi0 < lo0) = false := decide_eq_false h
      go_wp2_with fail
      go_meet
      exact ⟨lo0, hi0, by omega, h2, by first | rfl | rw [hl1], by first | rfl | rw [hm1], rfl⟩
  obtain ⟨lo, hi, hlh, hhi, rfl, rfl, rfl⟩ := hcut
  have HLH := Lib.hid (And.intro hlh hhi)
  clear hlh hl1 hm1 HL1 HM1
  go_wp2_with fail
  go_loopw [19, 20, 21, 23, 74] (fun v s _ _ _ wr => ∃ (k : Nat) (qs : List KCl.P), k ≤ 4 ∧ s = .int .i64 (((k + 1 : Nat)) : Int) ∧ Below w2.heap.size w2 wr ∧ OwnK KCl wr w2.heap.size v qs ∧ KCl.of qs = hcl ls (lo : Int) (hi : Int) k ∧ qs.length = k) (fun _ s _ _ _ _ => 5 - (intOf s).toNat)
  case atStart => exact ⟨0, [], by omega, rfl, Below.refl _ _, OwnK.nil _ _ _, rfl, rfl⟩
  case round =>
    obtain ⟨k, qs, hk, rfl, hB, hO, hq, hql⟩ := hrel
    have HB := Lib.hid hB
    have HO := Lib.hid hO
    have HQ := Lib.hid (And.intro hq hql)
    clear hB hO hq hql
    by_cases hlt : k < 4
    · have hd : decide (((k + 1 : Nat) : Int) ≤ 4) = true := by simp; omega
      have hk1 : ((k + 1 : Nat) : Int) = (k : Int) + 1 := by simp
      obtain ⟨s, hs⟩ : ∃ s, k + 1 = s := ⟨_, rfl⟩
      have HSK := Lib.hid hs
      have hs4 : s ≤ 4 := by omega
      have hs1 : 1 ≤ s := by omega
      rw [hs] at hd hk1 ⊢
      rw [← hk1] at *
      clear hk1 hs
      obtain ⟨W0, rfl⟩ : ∃ W0, W0 = wr := ⟨wr, rfl⟩
      have HW0 : Hid (HCw W0 (s : Int) (lo : Int) (hi : Int) (.slice none 0 0) (meansN (ls.take 0) (s : Int)) (W0.alloc (.cells #[.int .i64 (s : Int), .int .i64 (lo : Int), .int .i64 (hi : Int), .slice none 0 0] 29))) := Lib.hid
        ⟨(Below.refl _ _).alloc (Nat.le_refl _) _, Row.new _ _ _, OwnR.nil _ _⟩
      go_wp2_with fail
      obtain ⟨bx, hbx⟩ : ∃ b, W0.heap.size = b := ⟨_, rfl⟩
      have HBX := Lib.hid hbx
      rw [hbx]
      clear hbx
      go_loopw [23, 74] (fun _ i wx => ∃ (j : Nat) (mv : Value), j ≤ pl ∧ i = .int .i64 (j : Int) ∧ HCw W0 (s : Int) (lo : Int) (hi : Int) mv (meansN (ls.take j) (s : Int)) wx) (fun _ i _ => pl - (intOf i).toNat)
      case atStart => exact ⟨0, _, by omega, rfl, HW0.out⟩
      case round =>
        clear HW0
        obtain ⟨j, mv, hj, rfl, hW⟩ := hrel
        have HBj := Lib.hid (HB.out.trans (hW.below.mono HB.out.size))
        by_cases hlj : j < pl
        · obtain ⟨b, off, x, ai, ci, rfl, hx, c0, c1, hR⟩ := (HA2.out.below (Nat.le_refl _) HBj.out).at hlj
          have hdj : decide ((j : Int) < (pl : Int)) = true := by simp; omega
          have hji : (j : Int) < (pl : Int) := by omega
          have HMS := Lib.hid (means_snoc hx (s : Int))
          have HML : Hid ((meansN (ls.take j) (s : Int)).length ≤ 20) := Lib.hid (Nat.le_trans (filter_rgN _ _) (Nat.le_trans (rgN_take ls j) (right_rgN KL.out)))
          have HXL : Hid (x.rs.length ≤ 20) := Lib.hid (by
            have h1 := right_at KL.out hx
            exact (right_and _ h1.2.2).1)
          obtain ⟨ma, mc, rfl, -, -, -⟩ := hW.out.rgs (by have := HML.out; omega)
          have hw : Below wr.heap.size wr (wr.alloc (.cells (x.arr ai ci) 63)) := (Below.refl _ _).alloc (Nat.le_refl _) _
          have HW2 := Lib.hid (hW.later hw)
          have HRW := Lib.hid (Row.new wr 63 (x.arr ai ci))
          have HR2 := Lib.hid (hR.below hw)
          clear hx hw hR hW
          go_upto_region 14 with fail
          clear c0 c1
          generalize (wr.alloc (.cells (x.arr ai ci) 63)) = W2 at *
          generalize wr.heap.size = br at *
          have r0 := HRW.out.cell 0
          have r1 := HRW.out.cell 1
          simp only [List.getElem?_toArray, List.getElem?_cons_zero, List.getElem?_cons_succ] at r0 r1
          have q3 := HW2.out.row.cell 3
          simp only [List.getElem?_toArray, List.getElem?_cons_zero, List.getElem?_cons_succ] at q3
          rw [HBX.out] at q3
          by_cases hxs : x.s = (s : Int)
          · have he : (x.s == (s : Int)) = true := by rw [hxs]; simp
            have HMS2 : Hid (meansN (ls.take (j + 1)) (s : Int) = meansN (ls.take j) (s : Int) ++ x.rs) := Lib.hid (by rw [HMS.out, he]; rfl)
            clear HMS hxs
            rcases ai with _ | ad
            · have hx0 : x.rs = [] := by
                rcases HR2.out.rgs.cells with h0 | ⟨b, off, ha, _⟩
                · exact List.eq_nil_of_length_eq_zero h0
                · cases ha
              have hc0 : ci = 0 := HR2.out.nil rfl
              subst hc0
              rw [hx0] at HMS2 r0
              rw [List.append_nil] at HMS2
              have hrw := HW2.out.row
              have HW7 := Lib.hid (HW2.out.put HW2.out.out (Below.refl _ _))
              rw [HBX.out] at hrw HW7
              have hf := hrw.frozen 3
              have HBS := Lib.hid HW2.out.le
              go_wp2_with (refine appR0 rfl (.tmp 83) (.tmp 85) rfl (bx + 1) _ (meansN (ls.take j) (s : Int)) rfl (by have := HW2.out.out; rwa [HBX.out] at this) rfl (by have := HML.out; omega) ?_)
              exact ⟨⟨j + 1, _, by omega, by simp, by rw [HMS2.out]; exact HW7.out⟩, by simp [intOf]; omega⟩
            · have HO2 := Lib.hid (HBX.out ▸ HW2.out.out)
              have HBS := Lib.hid (HBX.out ▸ HW2.out.le)
              go_wp2_with (refine appR rfl (.tmp 83) (.tmp 85) rfl (bx + 1) _ (meansN (ls.take j) (s : Int)) x.rs rfl HO2.out ad x.rs.length ci rfl HR2.out.rgs (by have := HML.out; have := HXL.out; omega) HBS.out ?_
                           intro v' w7 h1 h2 h3 h4
                           rw [← HBX.out] at h1 h2
                           obtain ⟨mb, md, hmv, -, -, -⟩ := h1.rgs (by rw [List.length_append]; have := HML.out; have := HXL.out; omega)
                           generalize (meansN (ls.take j) (s : Int) ++ x.rs).length = lm at hmv
                           subst hmv
                           have hrw := HW2.out.row2 h2
                           have HW7 := Lib.hid (HW2.out.put h1 h2)
                           rw [HBX.out] at hrw HW7
                           have hf := hrw.frozen 3
                           have hq3 := hrw.cell 3
                           simp only [List.getElem?_toArray, List.getElem?_cons_zero, List.getElem?_cons_succ] at hq3
                           clear h1 h2 h3 h4 r0 r1 q3)
              exact ⟨⟨j + 1, _, by omega, by simp, by rw [HMS2.out]; exact HW7.out⟩, by simp [intOf]; omega⟩
          · have he : (x.s == (s : Int)) = false := by simpa using hxs
            have HMS2 : Hid (meansN (ls.take (j + 1)) (s : Int) = meansN (ls.take j) (s : Int)) := Lib.hid (by rw [HMS.out, he]; exact List.append_nil _)
            clear HMS hxs
            go_wp2_with fail
            exact ⟨⟨j + 1, _, by omega, by simp, by rw [HMS2.out]; exact HW2.out⟩, by simp [intOf]; omega⟩
        · obtain rfl : j = pl := by omega
          have hdj : decide ((j : Int) < (j : Int)) = false := by simp
          have q0 := hW.row.cell 0
          have q1 := hW.row.cell 1
          have q2 := hW.row.cell 2
          have q3 := hW.row.cell 3
          simp only [List.getElem?_toArray, List.getElem?_cons_zero, List.getElem?_cons_succ] at q0 q1 q2 q3
          rw [HBX.out] at q0 q1 q2 q3
          have HML : Hid ((meansN (ls.take j) (s : Int)).length ≤ 20) := Lib.hid (Nat.le_trans (filter_rgN _ _) (Nat.le_trans (rgN_take ls j) (right_rgN KL.out)))
          obtain ⟨ma, mc, rfl, hmr, hmc, hmn⟩ := hW.out.rgs (by have := HML.out; omega)
          have HM : Hid (meansN (ls.take j) (s : Int) = meansN ls (s : Int)) := Lib.hid (by rw [List.take_of_length_le (by have := HA2.out.length; omega)])
          rw [HM.out] at q3 HML hmr hmc
          have HP : Hid ((hcm ls (lo : Int) (hi : Int) s).rs = meansN ls (s : Int)) := Lib.hid rfl
          have hb3 : Below wr.heap.size wr (wr.alloc (.cells #[.int .i64 (s : Int), .int .i64 (lo : Int), .int .i64 (hi : Int), .slice ma (meansN ls (s : Int)).length mc] 29)) := (Below.refl _ _).alloc (Nat.le_refl _) _
          have HO3 := Lib.hid ((HO.out.later hW.below).later hb3)
          have HB3 := Lib.hid (HBj.out.trans (hb3.mono HBj.out.size))
          have HCL : Hid (∀ j u, (([(hcm ls (lo : Int) (hi : Int) s, ma, mc)] : List KCl.P).flatMap KCl.e)[j]? = some u → (wr.alloc (.cells #[.int .i64 (s : Int), .int .i64 (lo : Int), .int .i64 (hi : Int), .slice ma (meansN ls (s : Int)).length mc] 29)).cell? ((⟨wr.heap.size, 0, none⟩ : Addr).add j) = some u) := Lib.hid (one_cells KCl.e wr (hcm ls (lo : Int) (hi : Int) s, ma, mc) 29)
          have HRC : Hid (RgC (wr.alloc (.cells #[.int .i64 (s : Int), .int .i64 (lo : Int), .int .i64 (hi : Int), .slice ma (meansN ls (s : Int)).length mc] 29)) ma mc (meansN ls (s : Int))) := Lib.hid ((RgC.mk hmr hmc hmn).below hb3)
          have HQR : Hid (∀ p ∈ ([(hcm ls (lo : Int) (hi : Int) s, ma, mc)] : List KCl.P), RgC (wr.alloc (.cells #[.int .i64 (s : Int), .int .i64 (lo : Int), .int .i64 (hi : Int), .slice ma (meansN ls (s : Int)).length mc] 29)) p.2.1 p.2.2 (KCl.rs p.1)) := Lib.hid fun p hp => by
            rcases List.mem_singleton.1 hp with rfl
            exact HRC.out
          have HQN : Hid (∀ p ∈ ([(hcm ls (lo : Int) (hi : Int) s, ma, mc)] : List KCl.P), KCl.rs p.1 ≠ [] → ∀ ad, p.2.1 = some ad → u19.ownBlock ≠ some ad.block) := Lib.hid fun p hp _ ad had e => by
            rcases List.mem_singleton.1 hp with rfl
            have had : ma = some ad := had
            subst had
            have h1 := (World.ownsRow.lt HO.out.own.2 _ e).2
            have h2 := (hW.out.lt ad.block (by
              rcases hW.out.2 with ⟨h, _⟩ | ⟨g, _, _, h, _⟩
              · cases h
              · simp only [Value.slice.injEq, Option.some.injEq] at h
                rw [h.1]; simp [Value.ownBlock])).1
            omega
          clear hmr hmc hmn hW hb3
          go_wp2_with (refine appK (K := KCl) rfl (.tmp 89) (.tmp 91) rfl w2.heap.size u19 qs [(hcm ls (lo : Int) (hi : Int) s, ma, mc)] rfl HO3.out ⟨wr.heap.size, 0, none⟩ 1 1 rfl rfl HCL.out HQR.out HQN.out (by have := HQ.out.2; omega) HB3.out.size ?_
                       intro v' w7 h1 h2
                       have HB7 := Lib.hid (HB3.out.trans h2)
                       have HO7 := Lib.hid h1
                       clear h1 h2)
          go_roundw
          · refine ⟨k + 1, qs ++ ([(hcm ls (lo : Int) (hi : Int) s, ma, mc)] : List KCl.P), by omega, by have := HSK.out; simp; omega, HB7.out, HO7.out, ?_, by rw [List.length_append, HQ.out.2]; rfl⟩
            show KCl.of (qs ++ _) = hcl ls (lo : Int) (hi : Int) k ++ [hcm ls (lo : Int) (hi : Int) (k + 1)]
            unfold Kd.of
            rw [List.map_append]
            rw [← HSK.out] at *
            exact congrArg (· ++ _) HQ.out.1
          · have := HSK.out; simp [intOf]; omega
    · obtain rfl : k = 4 := by omega
      simp only [show (((4 + 1 : Nat)) : Int) = 5 from rfl]
      obtain ⟨gq, cq, rfl, -, hcq, hcm⟩ := HO.out.clm (by intro h; have := HQ.out.2; rw [h] at this; cases this)
      have HQL := Lib.hid HQ.out.2
      have hqc : 4 ≤ cq := by have := HQL.out; omega
      rw [HQ.out.2]
      have HCM := Lib.hid hcm
      have HQ1 := Lib.hid HQ.out.1
      have HB3 := Lib.hid (HB2.out.trans (HB.out.mono HB2.out.size))
      have HA3 := Lib.hid (HA2.out.below (Nat.le_refl _) HB.out)
      have HON := Lib.hid (honest_found KL.out KS.out HPL.out (show nn ≤ 13 by have := HN.out; omega) HLH.out.1 HLH.out.2)
      have HW := Lib.hid (show W64 L by have := HPL.out; unfold W64; omega)
      have HLG := Lib.hid (lg_made HPL.out (show nn ≤ 13 by have := HN.out; omega) KL.out)
      have HFT : Hid (∀ s : Nat, cnV L (nn : Int) ls s ≤ T) := Lib.hid fun s => by
        rw [HALL.out]; exact gv_top _ _ _ _
      rw [← HALL.out] at HON
      clear hcm hcq HO HQ HB HA2 HB2 HALL
      go_wp2_with fail
      refine (sg_CheckV L (nn : Int) a1 pl c1 ls (some ⟨gq, 0, none⟩) 4 cq (hcl ls (lo : Int) (hi : Int) 4) HW.out _ HA3.out (by have := HCM.out.cms HQ1.out (by have := HQL.out; omega); rwa [HQL.out] at this)).mono ?_
      rintro e w4 ⟨⟨v4, rfl, hv4⟩, hb4⟩
      rw [HON.out.2.1] at hv4
      rw [HON.out.1]
      have HB4 := Lib.hid (HB3.out.trans (hb4.mono HB3.out.size))
      have HA4 := Lib.hid (HA3.out.below (Nat.le_refl _) hb4)
      have HC4 := Lib.hid (HCM.out.below hb4)
      have HV4 := Lib.hid hv4
      clear hb4 hv4 HA3 HB3 HCM
      simp only [show okE true = 0 from rfl]
      go_wp2_with fail
      refine (sg_Counts_yes L nn HPL.out (by have := HN.out; omega) a1 pl c1 ls _ HA4.out KL.out).mono ?_
      rintro e w5 ⟨⟨b5, rfl, -, hr5⟩, hb5⟩
      have HB5 := Lib.hid (HB4.out.trans (hb5.mono HB4.out.size))
      have HA5 := Lib.hid (HA4.out.below (Nat.le_refl _) hb5)
      have HC5 := Lib.hid (HC4.out.below hb5)
      have HV5 := Lib.hid (HV4.out.below hb5)
      have HR5 := Lib.hid hr5
      clear hb5 hr5 HA4 HB4 HC4 HV4
      obtain ⟨f, HFE⟩ : ∃ f, Hid (cnV L (nn : Int) ls = f) := ⟨_, Lib.hid rfl⟩
      rw [HFE.out] at HON HFT HR5 HV5
      obtain ⟨G, HG⟩ : ∃ G, Hid ((fun i => hF f T (lo : Int) (hi : Int) i (i + 1)) = G) := ⟨_, Lib.hid rfl⟩
      rw [HG.out] at HV5
      have HGE : Hid (∀ i, G i = hF f T (lo : Int) (hi : Int) i (i + 1)) := Lib.hid fun i => by rw [← HG.out]
      have HGL : Hid (∀ i, (G i).length ≤ 1) := Lib.hid fun i => by
        rw [HGE.out]
        unfold hF f2 f3
        have h1 : (lo : Int) * (T : Int) ≤ (hi : Int) * (T : Int) := Int.mul_le_mul_of_nonneg_right (by have := HLH.out.1; omega) (by omega)
        by_cases q1 : 1000 * (f (i + 1) : Int) < (lo : Int) * (T : Int)
        · rw [if_pos q1, if_neg (by omega)]; simp
        · rw [if_neg q1]; split <;> simp
      have HFL : Hid ((listTo G 4).length ≤ 4) := Lib.hid (to_len G 1 HGL.out 4)
      obtain ⟨av, cv, rfl, hne⟩ := HV5.out.slice
      have HNE := Lib.hid hne
      obtain ⟨m, HM⟩ : ∃ m, Hid ((listTo G 4).length = m) := ⟨_, Lib.hid rfl⟩
      rw [HM.out] at HFL HV5
      rw [HM.out]
      have hm4 := HFL.out
      clear hne HG
      go_wp2_with fail
      go_loopw [28, 29, 30, 31, 32, 33, 121] (fun n1 _ _ _ _ _ i wr => ∃ (k : Nat), k ≤ 4 ∧ i = .int .i64 (k : Int) ∧ n1 = .int .i64 (((listTo G k).length : Nat) : Int) ∧ Below w5.heap.size w5 wr) (fun _ _ _ _ _ _ i _ => 4 - (intOf i).toNat)
      case atStart => exact ⟨0, by omega, rfl, rfl, Below.refl _ _⟩
      case round =>
        obtain ⟨k, hk, rfl, rfl, hB⟩ := hrel
        by_cases hlt : k < 4
        · have hd : decide ((k : Int) < 4) = true := by simp; omega
          have hki : (k : Int) < 4 := by omega
          obtain ⟨s, hs⟩ : ∃ s, k + 1 = s := ⟨_, rfl⟩
          have HSK := Lib.hid hs
          have hs4 : s ≤ 4 := by omega
          have hx0 : (hcl ls (lo : Int) (hi : Int) 4)[k]? = some (hcm ls (lo : Int) (hi : Int) s) := by rw [hcl_get _ _ _ _ _ hlt, hs]
          have hx : (KCl.of qs)[k]? = some (hcm ls (lo : Int) (hi : Int) s) := by rw [HQ1.out]; exact hx0
          obtain ⟨⟨x, ai, ci⟩, hp, hpx⟩ := Kd.of_get (K := KCl) hx
          have hpx : x = hcm ls (lo : Int) (hi : Int) s := hpx
          subst hpx
          have hcw := HC5.out.below hB
          have c0 : wr.cell? ⟨gq, k * 4, none⟩ = some (.int .i64 (s : Int)) := hcw.cells k _ 0 hp (by decide)
          have c1' : wr.cell? ⟨gq, k * 4 + 1, none⟩ = some (.int .i64 (lo : Int)) := hcw.cells k _ 1 hp (by decide)
          have c2' : wr.cell? ⟨gq, k * 4 + 2, none⟩ = some (.int .i64 (hi : Int)) := hcw.cells k _ 2 hp (by decide)
          have c3' : wr.cell? ⟨gq, k * 4 + 3, none⟩ = some (.slice ai (meansN ls (s : Int)).length ci) := hcw.cells k _ 3 hp (by decide)
          have hsl : (meansN ls (s : Int)).length ≤ 20 := Nat.le_trans (filter_rgN _ _) (right_rgN KL.out)
          obtain ⟨ml, hml⟩ : ∃ m, (meansN ls (s : Int)).length = m := ⟨_, rfl⟩
          rw [hml] at c3' hsl
          have hw : Below wr.heap.size wr (wr.alloc (.cells #[.int .i64 (s : Int), .int .i64 (lo : Int), .int .i64 (hi : Int), .slice ai ml ci] 29)) := (Below.refl _ _).alloc (Nat.le_refl _) _
          have HRW := Lib.hid (Row.new wr 29 #[.int .i64 (s : Int), .int .i64 (lo : Int), .int .i64 (hi : Int), .slice ai ml ci])
          have HB7 := Lib.hid (hB.trans (hw.mono hB.size))
          have HR7 := Lib.hid ((HR5.out.later hB).later hw)
          clear hB hx hx0 hp hcw hw hml hs
          go_upto_region 26 with fail
          clear c0 c1' c2' c3'
          generalize (wr.alloc (.cells #[.int .i64 (s : Int), .int .i64 (lo : Int), .int .i64 (hi : Int), .slice ai ml ci] 29)) = W7 at *
          generalize wr.heap.size = bc at *
          obtain ⟨y, hy⟩ : ∃ y, f s = y := ⟨_, rfl⟩
          have HY := Lib.hid hy
          have hyT : y ≤ T := by rw [← hy]; exact HFT.out s
          have hTb := HTB.out
          have hp1 : 0 ≤ (lo : Int) * (T : Int) ∧ (lo : Int) * (T : Int) ≤ 1048576000 := by
            refine ⟨Int.mul_nonneg (by omega) (by omega), ?_⟩
            have := Int.mul_le_mul (show (lo : Int) ≤ 1000 by have := HLH.out.1; have := HLH.out.2; omega) (show (T : Int) ≤ 1048576 by omega) (by omega) (by decide)
            exact this
          have hp2 : 0 ≤ (hi : Int) * (T : Int) ∧ (hi : Int) * (T : Int) ≤ 1048576000 := by
            refine ⟨Int.mul_nonneg (by omega) (by omega), ?_⟩
            have := Int.mul_le_mul (show (hi : Int) ≤ 1000 by have := HLH.out.2; omega) (show (T : Int) ≤ 1048576 by omega) (by omega) (by decide)
            exact this
          have hp12 : (lo : Int) * (T : Int) ≤ (hi : Int) * (T : Int) := Int.mul_le_mul_of_nonneg_right (by have := HLH.out.1; omega) (by omega)
          obtain ⟨p1, e1⟩ : ∃ p, (lo : Int) * (T : Int) = p := ⟨_, rfl⟩
          obtain ⟨p2, e2⟩ : ∃ p, (hi : Int) * (T : Int) = p := ⟨_, rfl⟩
          have HP1 := Lib.hid e1
          have HP2 := Lib.hid e2
          rw [e1] at hp1 hp12
          rw [e2] at hp2 hp12
          have r0 := HRW.out.cell 0
          simp only [List.getElem?_toArray, List.getElem?_cons_zero] at r0
          have r1 := (HR7.out.cell s).trans (tab_get 10 f s (by omega))
          rw [hy] at r1
          clear hy
          have f0 := fun dd os => cell_regrown r0 dd os
          have f1 := fun dd os => cell_regrown r1 dd os
          have hs10i : (s : Int) < 10 := by omega
          have hwy : wrap64 (1000 * (y : Int)) = 1000 * (y : Int) := by unfold wrap64; omega
          have hw1 : wrap64 p1 = p1 := by unfold wrap64; omega
          have hw2 : wrap64 p2 = p2 := by unfold wrap64; omega
          have CS : (1000 * (y : Int) < p1) ∨ (¬ 1000 * (y : Int) < p1 ∧ p2 < 1000 * (y : Int)) ∨ (¬ 1000 * (y : Int) < p1 ∧ ¬ p2 < 1000 * (y : Int)) := by omega
          obtain ⟨ra, hra⟩ : ∃ b, decide (1000 * (y : Int) < p1) = b := ⟨_, rfl⟩
          obtain ⟨of, hof⟩ : ∃ b, decide (p2 < 1000 * (y : Int)) = b := ⟨_, rfl⟩
          refine wp_region_quiet_below (by kernel_rfl) (by kernel_rfl) ?_
          repeat (first | go_big_quiet_step (fail) | quiet_step (fail))
          refine wpQuiet_nil ?_
          rintro _ ⟨q, rfl⟩
          have hb9 := below_regrown W7 q.d q.os
          have HB9 := Lib.hid (HB7.out.trans (hb9.mono HB7.out.size))
          have HR9 := Lib.hid (HR7.out.later hb9)
          have HRW9 := Lib.hid (HRW.out.later hb9)
          generalize grow (redrawn W7 q.d) q.os = W9 at *
          clear hb9 r0 r1 f0 f1 HB7 HR7 HRW
          rcases CS with q1 | ⟨q1, q2⟩ | ⟨q1, q2⟩
          · rw [decide_eq_true q1] at hra
            rw [decide_eq_false (show ¬ p2 < 1000 * (y : Int) by omega)] at hof
            subst hra hof
            clear e1 e2 hwy hw1 hw2
            have HX : Hid (G k = [⟨(k : Int), (s : Int), 2, (y : Int)⟩]) := Lib.hid (by
              rw [HGE.out]
              unfold hF f2 f3
              rw [HSK.out, HY.out, HP1.out, HP2.out]
              rw [if_pos q1, if_neg (by omega)]; rfl)
            have HAT := Lib.hid (listTo_get (n := 4) hlt HX.out)
            have HN1 : Hid ((listTo G (k + 1)).length = (listTo G k).length + 1) := Lib.hid (by
              show (listTo G k ++ G k).length = _
              rw [List.length_append, HX.out]; rfl)
            obtain ⟨gv, rfl⟩ := HNE.out (by intro h; have := HAT.out; rw [h] at this; cases this)
            have hnm : (listTo G k).length < m := by have := (List.getElem?_eq_some_iff.1 HAT.out).1; have := HM.out; omega
            obtain ⟨z0, z1, z2, z3⟩ := fl_at (HV5.out.below HB9.out) HAT.out
            simp only at z0 z1 z2 z3
            have HEQ := fun w' => fls_eq ⟨(k : Int), (s : Int), 2, (y : Int)⟩ w'
            simp only at HEQ
            generalize (listTo G k).length = n1 at *
            have hn1i : (n1 : Int) < (m : Int) := by omega
            have hdn : decide ((m : Int) ≤ (n1 : Int)) = false := by simp; omega
            have d0 := HRW9.out.cell 0
            simp only [List.getElem?_toArray, List.getElem?_cons_zero] at d0
            have d1 := (HR9.out.cell s).trans (tab_get 10 f s (by omega))
            rw [HY.out] at d1
            have y0 := fun dd os => cell_regrown z0 dd os
            have y1 := fun dd os => cell_regrown z1 dd os
            have y2 := fun dd os => cell_regrown z2 dd os
            have y3 := fun dd os => cell_regrown z3 dd os
            have y4 := fun dd os => cell_regrown d0 dd os
            have y5 := fun dd os => cell_regrown d1 dd os
            have hs10i : (s : Int) < 10 := by omega
            go_wp2_with fail
            refine wp_region_quiet_below (by kernel_rfl) (by kernel_rfl) ?_
            repeat (first | go_big_quiet_step (fail) | quiet_step (fail))
            refine wpQuiet_nil ?_
            rintro _ ⟨q2, rfl⟩
            have HB10 := Lib.hid (HB9.out.trans ((below_regrown _ q2.d q2.os).mono HB9.out.size))
            clear z0 z1 z2 z3 d0 d1 y0 y1 y2 y3 y4 y5 HEQ
            generalize grow (redrawn _ q2.d) q2.os = wb at *
            go_wp2_with fail
            exact ⟨⟨k + 1, by omega, by simp, by rw [HN1.out]; simp, HB10.out⟩, by simp [intOf]; omega⟩
          · rw [decide_eq_false q1] at hra
            rw [decide_eq_true q2] at hof
            subst hra hof
            clear e1 e2 hwy hw1 hw2
            have HX : Hid (G k = [⟨(k : Int), (s : Int), 3, (y : Int)⟩]) := Lib.hid (by
              rw [HGE.out]
              unfold hF f2 f3
              rw [HSK.out, HY.out, HP1.out, HP2.out]
              rw [if_neg q1, if_pos q2]; rfl)
            have HAT := Lib.hid (listTo_get (n := 4) hlt HX.out)
            have HN1 : Hid ((listTo G (k + 1)).length = (listTo G k).length + 1) := Lib.hid (by
              show (listTo G k ++ G k).length = _
              rw [List.length_append, HX.out]; rfl)
            obtain ⟨gv, rfl⟩ := HNE.out (by intro h; have := HAT.out; rw [h] at this; cases this)
            have hnm : (listTo G k).length < m := by have := (List.getElem?_eq_some_iff.1 HAT.out).1; have := HM.out; omega
            obtain ⟨z0, z1, z2, z3⟩ := fl_at (HV5.out.below HB9.out) HAT.out
            simp only at z0 z1 z2 z3
            have HEQ := fun w' => fls_eq ⟨(k : Int), (s : Int), 3, (y : Int)⟩ w'
            simp only at HEQ
            generalize (listTo G k).length = n1 at *
            have hn1i : (n1 : Int) < (m : Int) := by omega
            have hdn : decide ((m : Int) ≤ (n1 : Int)) = false := by simp; omega
            have d0 := HRW9.out.cell 0
            simp only [List.getElem?_toArray, List.getElem?_cons_zero] at d0
            have d1 := (HR9.out.cell s).trans (tab_get 10 f s (by omega))
            rw [HY.out] at d1
            have y0 := fun dd os => cell_regrown z0 dd os
            have y1 := fun dd os => cell_regrown z1 dd os
            have y2 := fun dd os => cell_regrown z2 dd os
            have y3 := fun dd os => cell_regrown z3 dd os
            have y4 := fun dd os => cell_regrown d0 dd os
            have y5 := fun dd os => cell_regrown d1 dd os
            have hs10i : (s : Int) < 10 := by omega
            go_wp2_with fail
            refine wp_region_quiet_below (by kernel_rfl) (by kernel_rfl) ?_
            repeat (first | go_big_quiet_step (fail) | quiet_step (fail))
            refine wpQuiet_nil ?_
            rintro _ ⟨q2, rfl⟩
            have HB10 := Lib.hid (HB9.out.trans ((below_regrown _ q2.d q2.os).mono HB9.out.size))
            clear z0 z1 z2 z3 d0 d1 y0 y1 y2 y3 y4 y5 HEQ
            generalize grow (redrawn _ q2.d) q2.os = wb at *
            go_wp2_with fail
            exact ⟨⟨k + 1, by omega, by simp, by rw [HN1.out]; simp, HB10.out⟩, by simp [intOf]; omega⟩
          · rw [decide_eq_false q1] at hra
            rw [decide_eq_false q2] at hof
            subst hra hof
            clear e1 e2 hwy hw1 hw2
            have HX : Hid (G k = []) := Lib.hid (by
              rw [HGE.out]
              unfold hF f2 f3
              rw [HSK.out, HY.out, HP1.out, HP2.out, if_neg q1, if_neg q2]; rfl)
            have HN1 : Hid ((listTo G (k + 1)).length = (listTo G k).length) := Lib.hid (by
              show (listTo G k ++ G k).length = _
              rw [List.length_append, HX.out]; rfl)
            go_wp2_with fail
            exact ⟨⟨k + 1, by omega, by simp, by rw [HN1.out], HB9.out⟩, by simp [intOf]; omega⟩
        · obtain rfl : k = 4 := by omega
          simp only [show ((4 : Nat) : Int) = 4 from rfl]
          rw [HM.out]
          have hmm : ((m : Int) != (m : Int)) = false := by simp
          have HB6 := Lib.hid hB
          clear hB
          go_wp2_with fail
          go_loopw [34, 35, 36, 37, 38, 40, 183] (fun _ _ _ _ _ _ i wr => ∃ (k : Nat), k ≤ 4 ∧ i = .int .i64 (k : Int) ∧ Below w5.heap.size w5 wr) (fun _ _ _ _ _ _ i _ => 4 - (intOf i).toNat)
          case atStart => exact ⟨0, by omega, rfl, HB6.out⟩
          case round =>
            obtain ⟨k, hk, rfl, hB⟩ := hrel
            have HBk := Lib.hid hB
            clear hB
            by_cases hlt : k < 4
            · have hd : decide ((k : Int) < 4) = true := by simp; omega
              have hki : (k : Int) < 4 := by omega
              go_upto_region 40 with fail
              obtain ⟨W0, rfl⟩ : ∃ W0, W0 = wr := ⟨wr, rfl⟩
              have HCk := Lib.hid (HC5.out.below HBk.out)
              obtain ⟨ad8, hv8, hs8⟩ : ∃ ad8 : Addr, (if cq = k + 1 then some (⟨gq, 0, none⟩ : Addr) else some ⟨gq, (k + 1) * 4, none⟩) = some ad8 ∧ ∀ w', Below W0.heap.size W0 w' → ∀ j x, ((qs.drop (k + 1)).flatMap KCl.e)[j]? = some x → w'.cell? (ad8.add j) = some x := by
                by_cases e : cq = k + 1
                · refine ⟨⟨gq, 0, none⟩, if_pos e, fun w' _ j x hx => ?_⟩
                  rw [List.drop_eq_nil_of_le (by have := HQL.out; omega)] at hx
                  simp at hx
                · exact ⟨⟨gq, (k + 1) * 4, none⟩, if_neg e, fun w' hb j x hx => (HCk.out.below hb).drop (k + 1) (by have := HQL.out; omega) j x hx⟩
              have HV8 := Lib.hid hv8
              have HS8 := Lib.hid hs8
              clear hv8 hs8
              obtain ⟨hL, HHL⟩ : ∃ l, Hid (KCl.of qs = l) := ⟨_, Lib.hid rfl⟩
              have HLL : Hid (hL.length = 4) := Lib.hid (by rw [← HHL.out]; exact (Kd.of_len qs).trans HQL.out)
              have HOI : Hid (∀ (j : Nat) (ms : List _) (m : Nat), ([.own ([] : List Cm) 4, .eq (.slice (some ⟨gq, 0, none⟩) 4 cq), .eq (.int .i64 (k : Int)), .eq (.slice (some ⟨gq, 0, none⟩) k cq), .own (hL.take k) 9, .eq (.slice (some ⟨gq, 0, none⟩) 4 cq), .eq (.int .i64 (k : Int)), .eq (.int .i64 ((k + 1 : Nat) : Int)), .eq (.slice (some ad8) (4 - (k + 1)) (cq - (k + 1))), .own (hL.take k ++ hL.drop (k + 1)) 10, .own (hL.take k ++ hL.drop (k + 1)) 11] : List (SpK KCl.α))[j]? = some (.own ms m) → (j = 0 ∧ m = 4) ∨ (j = 4 ∧ m = 9) ∨ (j = 9 ∧ m = 10) ∨ (j = 10 ∧ m = 11)) := Lib.hid (by
                intro j ms m h
                rcases j with _ | _ | _ | _ | _ | _ | _ | _ | _ | _ | _ | _
                all_goals (simp at h; try (obtain ⟨_, h2⟩ := h; omega)))
              refine wp_region_reliesG (FXG KCl W0.heap.size W0 (.slice none 0 0) (KCl.of ([] : List KCl.P)) 0 [.own ([] : List Cm) 4, .eq (.slice (some ⟨gq, 0, none⟩) 4 cq), .eq (.int .i64 (k : Int)), .eq (.slice (some ⟨gq, 0, none⟩) k cq), .own (hL.take k) 9, .eq (.slice (some ⟨gq, 0, none⟩) 4 cq), .eq (.int .i64 (k : Int)), .eq (.int .i64 ((k + 1 : Nat) : Int)), .eq (.slice (some ad8) (4 - (k + 1)) (cq - (k + 1))), .own (hL.take k ++ hL.drop (k + 1)) 10, .own (hL.take k ++ hL.drop (k + 1)) 11]) (by kernel_rfl) (by kernel_rfl) (by kernel_rfl) (by kernel_rfl) (fx_start KCl _ _ _ [] _ _ (OwnK.nil _ _ _) (Nat.le_refl _)) ?obls ?fini
              case obls =>
                refine ⟨?_, ?_, ?_, ?_, ?_, ?_, ?_, ?_, ?_, ?_, ?_, trivial⟩
                · -- 0
                  rintro ρ f w' ⟨row, hF⟩ hfi hw hcl hf
                  refine ok_value (v := .slice (some ⟨w'.heap.size, 0, none⟩) 0 0) (w' := w'.alloc (.cells #[] KCl.T)) ?_ (hF.turn 0 ([] : List Cm) 4 _ rfl (grownBy_below ((Below.refl _ _).alloc (Nat.le_refl _) _) _) (.inr ⟨_, rfl, Nat.le_refl _⟩) ⟨[], rfl, OwnK.made0 KCl w' _ hF.below.size, rfl⟩ (.inl rfl) ?_)
                  · simp [execOp, go_sem, KCl]
                  have n4 := none_of hcl hfi (j := 4) (by decide)
                  have n9 := none_of hcl n4 (j := 9) (by decide)
                  have n10 := none_of hcl n9 (j := 10) (by decide)
                  intro j ms m h
                  obtain ⟨rfl, rfl⟩ | ⟨rfl, rfl⟩ | ⟨rfl, rfl⟩ | ⟨rfl, rfl⟩ := HOI.out j ms m h
                  · exact .inl rfl
                  · exact .inr (.inr (.inl n4))
                  · exact .inr (.inr (.inl n9))
                  · exact .inr (.inr (.inl n10))
                · -- 1
                  rintro ρ f w' ⟨row, hF⟩ hfi hw hcl hf
                  have f19 : ρ (.tmp 19) = .slice (some ⟨gq, 0, none⟩) 4 cq := hf.1 19 (by simp [Op.operands])
                  refine ok_value (v := .slice (some ⟨gq, 0, none⟩) 4 cq) (w' := w') ?_ (hF.step 1 (.eq _) _ rfl (Below.refl _ _) rfl)
                  simp [execOp, f19]
                · -- 2
                  rintro ρ f w' ⟨row, hF⟩ hfi hw hcl hf
                  have f34 : ρ (.tmp 34) = .int .i64 (k : Int) := hf.1 34 (by simp [Op.operands])
                  refine ok_value (v := .int .i64 (k : Int)) (w' := w') ?_ (hF.step 2 (.eq _) _ rfl (Below.refl _ _) rfl)
                  simp [execOp, f34]
                · -- 3
                  rintro ρ f w' ⟨row, hF⟩ hfi hw hcl hf
                  have f187 : ρ (.tmp 187) = .slice (some ⟨gq, 0, none⟩) 4 cq := hF.each 1 (.eq _) _ rfl (hf.1 187 (by simp [Op.operands]))
                  have f188 : ρ (.tmp 188) = .int .i64 (k : Int) := hF.each 2 (.eq _) _ rfl (hf.1 188 (by simp [Op.operands]))
                  refine ok_value (v := .slice (some ⟨gq, 0, none⟩) k cq) (w' := w') ?_ (hF.step 3 (.eq _) _ rfl (Below.refl _ _) rfl)
                  simp [execOp, f187, f188, go_sem]
                  omega
                · -- 4
                  rintro ρ f w' ⟨row, hF⟩ hfi hw hcl hf
                  have hu := hf.1 186 (by simp [Op.operands, Call.operands])
                  have hou := hF.each 0 (.own _ 4) _ rfl hu hfi
                  have f189 : ρ (.tmp 189) = .slice (some ⟨gq, 0, none⟩) k cq := hF.each 3 (.eq _) _ rfl (hf.1 189 (by simp [Op.operands, Call.operands]))
                  have hC := HCk.out.below hF.below
                  refine ok_appK (K := KCl) (.tmp 186) (.tmp 189) rfl W0.heap.size _ ([]) (hL.take k) row rfl hou ⟨gq, 0, none⟩ k cq f189 (qs.take k) (by rw [← HHL.out]; unfold Kd.of; rw [List.map_take]) (by rw [List.length_take]; have := HQL.out; omega) (fun j x hx => hC.take k j x hx) (fun p hp => hC.rg p (List.mem_of_mem_take hp)) (fun p hp hr ad had e => by
                    have h1 := (HCk.out.rg p (List.mem_of_mem_take hp)).old hr ad had
                    have h2 := (hF.lt2 _ e).1
                    omega) (by have := HLL.out; simp; omega) hF.below.size fun v w2 row' ho hg hr => hF.turn 4 (hL.take k) 9 v rfl hg hr ho (.inr (hw 0 (by decide))) ?_
                  have n9 := none_of hcl hfi (j := 9) (by decide)
                  have n10 := none_of hcl n9 (j := 10) (by decide)
                  intro j ms m h
                  obtain ⟨rfl, rfl⟩ | ⟨rfl, rfl⟩ | ⟨rfl, rfl⟩ | ⟨rfl, rfl⟩ := HOI.out j ms m h
                  · exact .inr (.inl rfl)
                  · exact .inl rfl
                  · exact .inr (.inr (.inl n9))
                  · exact .inr (.inr (.inl n10))
                · -- 5
                  rintro ρ f w' ⟨row, hF⟩ hfi hw hcl hf
                  have f19 : ρ (.tmp 19) = .slice (some ⟨gq, 0, none⟩) 4 cq := hf.1 19 (by simp [Op.operands])
                  refine ok_value (v := .slice (some ⟨gq, 0, none⟩) 4 cq) (w' := w') ?_ (hF.step 5 (.eq _) _ rfl (Below.refl _ _) rfl)
                  simp [execOp, f19]
                · -- 6
                  rintro ρ f w' ⟨row, hF⟩ hfi hw hcl hf
                  have f34 : ρ (.tmp 34) = .int .i64 (k : Int) := hf.1 34 (by simp [Op.operands])
                  refine ok_value (v := .int .i64 (k : Int)) (w' := w') ?_ (hF.step 6 (.eq _) _ rfl (Below.refl _ _) rfl)
                  simp [execOp, f34]
                · -- 7
                  rintro ρ f w' ⟨row, hF⟩ hfi hw hcl hf
                  have f192 : ρ (.tmp 192) = .int .i64 (k : Int) := hF.each 6 (.eq _) _ rfl (hf.1 192 (by simp [Op.operands]))
                  refine ok_value (v := .int .i64 ((k + 1 : Nat) : Int)) (w' := w') ?_ (hF.step 7 (.eq _) _ rfl (Below.refl _ _) rfl)
                  have hwr : IntKind.i64.wrap ((k : Int) + 1) = (k : Int) + 1 := IntWalk.i64_in _ (by omega)
                  simp [execOp, f192, hf.2.1, go_sem, hwr]
                · -- 8
                  rintro ρ f w' ⟨row, hF⟩ hfi hw hcl hf
                  have f191 : ρ (.tmp 191) = .slice (some ⟨gq, 0, none⟩) 4 cq := hF.each 5 (.eq _) _ rfl (hf.1 191 (by simp [Op.operands]))
                  have f193 : ρ (.tmp 193) = .int .i64 ((k + 1 : Nat) : Int) := hF.each 7 (.eq _) _ rfl (hf.1 193 (by simp [Op.operands]))
                  refine ok_value (v := .slice (some ad8) (4 - (k + 1)) (cq - (k + 1))) (w' := w') ?_ (hF.step 8 (.eq _) _ rfl (Below.refl _ _) rfl)
                  rw [← HV8.out]
                  simp [execOp, f191, f193, go_sem]
                  try omega
                · -- 9
                  rintro ρ f w' ⟨row, hF⟩ hfi hw hcl hf
                  have hu := hf.1 190 (by simp [Op.operands, Call.operands])
                  have hou := hF.each 4 (.own _ 9) _ rfl hu hfi
                  have f194 : ρ (.tmp 194) = .slice (some ad8) (4 - (k + 1)) (cq - (k + 1)) := hF.each 8 (.eq _) _ rfl (hf.1 194 (by simp [Op.operands, Call.operands]))
                  have hC := HCk.out.below hF.below
                  refine ok_appK (K := KCl) (.tmp 190) (.tmp 194) rfl W0.heap.size _ (hL.take k) (hL.drop (k + 1)) row rfl hou ad8 (4 - (k + 1)) (cq - (k + 1)) f194 (qs.drop (k + 1)) (by rw [← HHL.out]; unfold Kd.of; rw [List.map_drop]) (by rw [List.length_drop]; have := HQL.out; omega) (fun j x hx => HS8.out w' hF.below j x hx) (fun p hp => hC.rg p (List.mem_of_mem_drop hp)) (fun p hp hr ad had e => by
                    have h1 := (HCk.out.rg p (List.mem_of_mem_drop hp)).old hr ad had
                    have h2 := (hF.lt2 _ e).1
                    omega) (by have := HLL.out; simp; omega) hF.below.size fun v w2 row' ho hg hr => hF.turn 9 (hL.take k ++ hL.drop (k + 1)) 10 v rfl hg hr ho (.inr (hcl 4 (hw 4 (by decide)) 0 (by decide))) ?_
                  have n10 := none_of hcl hfi (j := 10) (by decide)
                  intro j ms m h
                  obtain ⟨rfl, rfl⟩ | ⟨rfl, rfl⟩ | ⟨rfl, rfl⟩ | ⟨rfl, rfl⟩ := HOI.out j ms m h
                  · exact .inr (.inr (.inr (hw 4 (by decide))))
                  · exact .inr (.inl rfl)
                  · exact .inl rfl
                  · exact .inr (.inr (.inl n10))
                · -- 10
                  rintro ρ f w' ⟨row, hF⟩ hfi hw hcl hf
                  have hu := hf.1 195 (by simp [Op.operands])
                  have hou := hF.each 9 (.own _ 10) _ rfl hu hfi
                  refine ok_value (v := ρ (.tmp 195)) (w' := w') (by simp [execOp]) (hF.turn 10 (hL.take k ++ hL.drop (k + 1)) 11 _ rfl (grownBy_below (Below.refl _ _) _) (.inl rfl) hou (.inr (hcl 4 (hcl 9 (hw 9 (by decide)) 4 (by decide)) 0 (by decide))) ?_)
                  intro j ms m h
                  obtain ⟨rfl, rfl⟩ | ⟨rfl, rfl⟩ | ⟨rfl, rfl⟩ | ⟨rfl, rfl⟩ := HOI.out j ms m h
                  · exact .inr (.inr (.inr (hcl 9 (hw 9 (by decide)) 4 (by decide))))
                  · exact .inr (.inr (.inr (hw 9 (by decide))))
                  · exact .inr (.inl rfl)
                  · exact .inl rfl
              case fini =>
                rintro vs w8 hlen ⟨row, hF⟩
                have hl0 : vs.length = 11 := hlen
                clear hlen
                obtain ⟨v0, t0, rfl, hl1⟩ := uncons hl0
                clear hl0
                obtain ⟨v1, t1, rfl, hl2⟩ := uncons hl1
                clear hl1
                obtain ⟨v2, t2, rfl, hl3⟩ := uncons hl2
                clear hl2
                obtain ⟨v3, t3, rfl, hl4⟩ := uncons hl3
                clear hl3
                obtain ⟨v4, t4, rfl, hl5⟩ := uncons hl4
                clear hl4
                obtain ⟨v5, t5, rfl, hl6⟩ := uncons hl5
                clear hl5
                obtain ⟨v6, t6, rfl, hl7⟩ := uncons hl6
                clear hl6
                obtain ⟨v7, t7, rfl, hl8⟩ := uncons hl7
                clear hl7
                obtain ⟨v8, t8, rfl, hl9⟩ := uncons hl8
                clear hl8
                obtain ⟨v9, t9, rfl, hl10⟩ := uncons hl9
                clear hl9
                obtain ⟨v10, t10, rfl, hl11⟩ := uncons hl10
                clear hl10
                obtain rfl := List.eq_nil_of_length_eq_zero hl11
                clear hl11
                obtain ⟨rs, hq1, hq2, -⟩ := hF.each 10 (.own _ 11) v10 rfl rfl rfl
                have hb8 := hF.below
                clear hF HOI HS8 HV8
                have hrl : rs.length = 3 := by
                  have := congrArg List.length hq1
                  rw [Kd.of_len, List.length_append] at this
                  have h1 : (hL.take k).length = k := by rw [List.length_take, HLL.out]; omega
                  have h2 : (hL.drop (k + 1)).length = 4 - (k + 1) := by rw [List.length_drop, HLL.out]
                  rw [h1, h2] at this
                  omega
                obtain ⟨g8, c8, rfl, -, -, hcm8⟩ := hq2.clm (by intro h; rw [h] at hrl; cases hrl)
                have HLC : Hid (KCl.of rs = lessC ls (lo : Int) (hi : Int) k) := Lib.hid (by rw [hq1, ← HHL.out, HQ1.out]; rfl)
                have HRL := Lib.hid hrl
                rw [hrl]
                have HCM8 := Lib.hid hcm8
                have HB8 := Lib.hid (HBk.out.trans (hb8.mono HBk.out.size))
                have HA8 := Lib.hid (HA5.out.below (Nat.le_refl _) HB8.out)
                clear hb8 hq2 hq1 hrl hcm8 HBk HCk HHL HLL
                simp only [putAll, List.zip_cons_cons, List.zip_nil_right, List.foldl_cons, List.foldl_nil]
                simp only [Act.put, List.setIfInBounds_toArray, List.set_cons_succ, List.set_cons_zero]
                obtain ⟨hok, hkind, hsec⟩ := HON.out.2.2 k hlt
                have HOK := Lib.hid hok
                have HKI := Lib.hid hkind
                have HSE := Lib.hid hsec
                clear hok hkind hsec
                go_wp2_with fail
                refine (sg_CheckV L (nn : Int) a1 pl c1 ls (some ⟨g8, 0, none⟩) 3 c8 (lessC ls (lo : Int) (hi : Int) k) HW.out _ HA8.out (by have := HCM8.out.cms HLC.out (by have := HRL.out; omega); rwa [HRL.out] at this)).mono ?_
                rintro e w9 ⟨⟨v9, rfl, hv9⟩, hb9⟩
                rw [HOK.out]
                have hFL : (ckL L (nn : Int) ls (lessC ls (lo : Int) (hi : Int) k)).length ≤ 100 := ck_len100 _ _ _ _
                obtain ⟨F, HF⟩ : ∃ F, Hid (ckL L (nn : Int) ls (lessC ls (lo : Int) (hi : Int) k) = F) := ⟨_, Lib.hid rfl⟩
                rw [HF.out] at hv9 HKI HSE hFL
                obtain ⟨y, HY⟩ : ∃ y, Hid (f (k + 1) = y) := ⟨_, Lib.hid rfl⟩
                rw [HY.out] at HKI HSE
                obtain ⟨af, cf, rfl, hne9⟩ := hv9.slice
                have HNE9 := Lib.hid hne9
                obtain ⟨mf, HMF⟩ : ∃ m, Hid (F.length = m) := ⟨_, Lib.hid rfl⟩
                rw [HMF.out] at hv9 hFL
                rw [HMF.out]
                have HB9 := Lib.hid (HB8.out.trans (hb9.mono HB8.out.size))
                have HV9 := Lib.hid hv9
                have HR9 := Lib.hid (HR5.out.later HB9.out)
                clear hb9 hv9 hne9 HB8 HA8 HCM8
                simp only [show okE true = 0 from rfl]
                have hsc1 : secN F ≤ 1 := by rw [HSE.out]; split <;> omega
                go_wp2_with fail
                go_loopw [38, 40, 206] (fun sc _ i wr => ∃ (j : Nat), j ≤ mf ∧ i = .int .i64 (j : Int) ∧ sc = .int .i64 ((secN (F.take j) : Nat) : Int) ∧ Below w9.heap.size w9 wr) (fun _ _ i _ => mf - (intOf i).toNat)
                case atStart => exact ⟨0, by omega, rfl, rfl, Below.refl _ _⟩
                case round =>
                  obtain ⟨j, hj, rfl, rfl, hB⟩ := hrel
                  have HBj := Lib.hid hB
                  clear hB
                  by_cases hlj : j < mf
                  · have hdj : decide ((j : Int) < (mf : Int)) = true := by simp; omega
                    have hji : (j : Int) < (mf : Int) := by omega
                    obtain ⟨x, hx⟩ : ∃ x, F[j]? = some x := ⟨_, List.getElem?_eq_getElem (by have := HMF.out; omega)⟩
                    obtain ⟨gf, rfl⟩ := HNE9.out (by intro h; rw [h] at hx; cases hx)
                    obtain ⟨z0, z1, z2, z3⟩ := fl_at (HV9.out.below HBj.out) hx
                    have HKX := Lib.hid (HKI.out x (List.mem_of_getElem? hx))
                    have HSX := Lib.hid (secN_snoc hx)
                    have hsj : secN (F.take j) ≤ 1 := Nat.le_trans (secN_take F j) hsc1
                    clear hx
                    obtain ⟨xc, xs, xk, xh⟩ := x
                    simp only at z0 z1 z2 z3 HKX HSX
                    have hw : Below wr.heap.size wr (wr.alloc (.cells #[.int .i64 xc, .int .i64 xs, .int .u8 (xk : Int), .int .i64 xh] 46)) := (Below.refl _ _).alloc (Nat.le_refl _) _
                    have HRW := Lib.hid (Row.new wr 46 #[.int .i64 xc, .int .i64 xs, .int .u8 (xk : Int), .int .i64 xh])
                    have HBw := Lib.hid (HBj.out.trans (hw.mono HBj.out.size))
                    have HRw := Lib.hid ((HR9.out.later HBj.out).later hw)
                    clear hw
                    generalize secN (F.take j) = sj at *
                    by_cases h4 : xk = 4
                    · have hk4 : ((xk : Int) == 4) = true := by subst h4; rfl
                      have hX := HKX.out h4
                      rw [if_pos h4] at HSX
                      injection hX with e1 e2 e3 e4
                      subst e1 e2 e3 e4
                      clear hk4 h4 HKX
                      obtain ⟨s, hs⟩ : ∃ s, k + 1 = s := ⟨_, rfl⟩
                      have HSS := Lib.hid hs
                      rw [hs] at z1 HRW HBw HRw
                      clear hs
                      go_upto_region 48 with fail
                      clear z0 z1 z2 z3
                      generalize (wr.alloc (.cells #[.int .i64 (-1), .int .i64 (s : Int), .int .u8 4, .int .i64 (y : Int)] 46)) = W7 at *
                      generalize wr.heap.size = bc at *
                      have r0 := HRW.out.cell 0
                      have r1 := HRW.out.cell 1
                      have r3 := HRW.out.cell 3
                      simp only [List.getElem?_toArray, List.getElem?_cons_zero, List.getElem?_cons_succ] at r0 r1 r3
                      have r5 := (HRw.out.cell (k + 1)).trans (tab_get 10 f (k + 1) (by omega))
                      rw [HY.out, HSS.out] at r5
                      have hsI : (k : Int) + 1 = (s : Int) := by have := HSS.out; omega
                      have hs10 : (s : Int) < 10 := by omega
                      have f0 := fun dd os => cell_regrown r0 dd os
                      have f1 := fun dd os => cell_regrown r1 dd os
                      have f3 := fun dd os => cell_regrown r3 dd os
                      have f5 := fun dd os => cell_regrown r5 dd os
                      have hss : ((s : Int) != (s : Int)) = false := by simp
                      have hyy : ((y : Int) != (y : Int)) = false := by simp
                      have hwk : IntKind.i64.wrap ((k : Int) + 1) = (s : Int) := by rw [hsI]; exact IntWalk.i64_in _ (by omega)
                      refine wp_region_quiet_below (by kernel_rfl) (by kernel_rfl) ?_
                      repeat (first | go_big_quiet_step (fail) | quiet_step (fail))
                      refine wpQuiet_nil ?_
                      rintro _ ⟨q, rfl⟩
                      have HB10 := Lib.hid (HBw.out.trans ((below_regrown W7 q.d q.os).mono HBw.out.size))
                      generalize grow (redrawn W7 q.d) q.os = wb at *
                      clear r0 r1 r3 r5 f0 f1 f3 f5 hsI hwk
                      go_wp2_with fail
                      exact ⟨⟨j + 1, by omega, by simp, by rw [HSX.out]; simp, HB10.out⟩, by simp [intOf]; omega⟩
                    · have hk4 : ((xk : Int) == 4) = false := by simp; omega
                      rw [if_neg h4] at HSX
                      clear h4
                      go_wp2_with fail
                      exact ⟨⟨j + 1, by omega, by simp, by rw [HSX.out]; simp, HBw.out⟩, by simp [intOf]; omega⟩
                  · obtain rfl : j = mf := by omega
                    have hdj : decide ((j : Int) < (j : Int)) = false := by simp
                    rw [List.take_of_length_le (by have := HMF.out; omega), HSE.out]
                    have r5 := ((HR9.out.later HBj.out).cell (k + 1)).trans (tab_get 10 f (k + 1) (by omega))
                    rw [HY.out] at r5
                    have HB11 := Lib.hid (HB9.out.trans (HBj.out.mono HB9.out.size))
                    obtain ⟨s, hs⟩ : ∃ s, k + 1 = s := ⟨_, rfl⟩
                    have hsI : (k : Int) + 1 = (s : Int) := by omega
                    have hs10 : (s : Int) < 10 := by omega
                    rw [hs] at r5
                    rcases Nat.eq_zero_or_pos y with h0 | h0
                    · subst h0
                      have g0 : decide ((0 : Int) < ((0 : Nat) : Int)) = false := rfl
                      rw [if_neg (by omega)]
                      go_wp2_with fail
                      go_roundw
                      · exact ⟨k + 1, by omega, by simp; omega, HB11.out⟩
                      · simp [intOf]; omega
                    · have g0 : decide ((0 : Int) < (y : Int)) = true := by simp; omega
                      rw [if_pos h0]
                      go_wp2_with fail
                      go_roundw
                      · exact ⟨k + 1, by omega, by simp; omega, HB11.out⟩
                      · simp [intOf]; omega
            · obtain rfl : k = 4 := by omega
              simp only [show ((4 : Nat) : Int) = 4 from rfl]
              go_wp2_with fail
              refine (law41_awake _).mono ?_
              rintro e w14 ⟨rfl, hb14⟩
              have h1 := HB5.out.trans (HBk.out.mono HB5.out.size)
              have HB14 := Lib.hid (h1.trans (hb14.mono h1.size))
              clear hb14 h1
              go_wp2_with fail
              go_ret
              exact ⟨rfl, HB14.out⟩
end Go.Proofs.Ytikdkhiehfccpaa
