/- SignalOutside over this seat's program: the body. -/
import Derived.Test.YtikdkhiehfccpaaMSgq
import Derived.Deep.CutRange
namespace Go.Proofs.Ytikdkhiehfccpaa
open Go.RowKit Go.Sort Go.Shelf Cnt

set_option maxHeartbeats 4000000 in
set_option maxRecDepth 10000 in
theorem law_SignalOutside (al : Option Addr) (ll cl : Nat) (zs : List Nat) (n : Nat) (ax : Option Addr) (lx cx : Nat) (css : List (List Cd)) (az : Option Addr) (lz cz : Nat) (ss : List Nat) (ay : Option Addr) (ly cy : Nat) (ds : List Cd) (sg : Nat) (w : World)
    (hz : Byt w al ll zs) (hlc : ll ≤ cl) (hn : n < 256) (hx : Cdss w ax lx css) (hlx : lx ≤ cx) (hss : Byt w az lz ss) (_ : lz ≤ cz) (hy : Cds w ay ly ds) (hly : ly ≤ cy) (hsg : sg < 256) :
    Calls Try.prog 5 #[.slice al ll cl, .int .u8 (n : Int), .slice ax lx cx, .slice az lz cz, .slice ay ly cy, .int .u8 (sg : Int)] w fun e w' => e = .returned (.bool true) ∧ Below w.heap.size w w' := by
  have HZ := Lib.hid hz
  have HX := Lib.hid hx
  have HY := Lib.hid hy
  have HS := Lib.hid hss
  have hnn : (n : Int) % 7 = ((n % 7 : Nat) : Int) := by omega
  have HN := Lib.hid (show n % 7 ≤ 6 by omega)
  generalize n % 7 = nn at *
  have hs4 : (sg : Int) % 4 = ((sg % 4 : Nat) : Int) := by omega
  have hs4l : sg % 4 < 4 := by omega
  generalize sg % 4 = s at *
  clear hx hy hz hss
  have KA := Lib.hid (made_ok ds)
  have LA := Lib.hid (made_len ds)
  generalize hma : made ds = A at *
  have KL := Lib.hid (made41_right css ss)
  have LL := Lib.hid (made41_len css ss)
  generalize hml : made41 css ss = ls at *
  have HPL := Lib.hid (litTo_lt zs (min ll 11))
  have HPP : Hid (pop (litTo zs (min ll 11)) ≤ 11) := Lib.hid (Nat.le_trans (litTo_pop zs _) (by omega))
  obtain ⟨L, HL⟩ : ∃ L, Hid (litTo zs (min ll 11) = L) := ⟨_, Lib.hid rfl⟩
  rw [HL.out] at HPL HPP
  go_enter Try.func5, Try.ntmps5
  go_wp2_with fail
  refine (law41_Made ax lx cx css az lz cz ss _ HX.out hlx HS.out).mono ?_
  rintro e w1 ⟨⟨v1, ps, rfl, hv1, hps⟩, hb1⟩
  rw [hml] at hps
  have hpl : ps.length ≤ 5 := by have := LL.out; rw [← hps, rlsOf_len] at this; exact this
  obtain ⟨a1, c1, rfl, hR1, -⟩ := hv1.rls (by omega)
  rw [hps] at hR1
  have HR1 := Lib.hid hR1
  have HB1 := Lib.hid hb1
  have HY1 := Lib.hid (HY.out.below (Nat.le_refl _) hb1)
  have HZ1 := Lib.hid (HZ.out.below (Nat.le_refl _) hb1)
  generalize ps.length = pl at *
  clear hv1 hR1 hb1 hml hps
  go_wp2_with fail
  refine (law41_hands al ll cl zs nn _ HZ1.out hlc).mono ?_
  rintro e w2 ⟨⟨v3, rfl, hv3⟩, hb2⟩
  rw [HL.out] at hv3 ⊢
  have HSUB : Hid (∀ k, k < (handsL L nn).length → W64 ((handsL L nn).getD k 0)) := Lib.hid fun k hk => by
    rw [getD_eq' _ _ hk]
    have h1 := List.getElem_mem hk
    have := subs_52 (L := L) (k := 52) (by omega) (List.mem_filter.1 (show _ ∈ (subs L 52).filter _ from h1)).1
    unfold W64; omega
  have HALL := Lib.hid (hs_all HPL.out nn)
  have HSO := Lib.hid (hs_out HPL.out nn KL.out A (s + 1))
  have hN48 : (handsL L nn).length ≤ 1048576 := by
    rw [HALL.out]
    exact Nat.le_trans (chs_le _ _) (Nat.le_trans (Nat.pow_le_pow_right (n := 2) (by decide) (show pop L ≤ 20 by have := HPP.out; omega)) (by decide))
  generalize handsL L nn = lh at *
  obtain ⟨N, HNL⟩ : ∃ N, Hid (lh.length = N) := ⟨_, Lib.hid rfl⟩
  have HN48 : Hid (N ≤ 1048576) := Lib.hid (by rw [← HNL.out]; exact hN48)
  have hform : ∃ a3 c3, v3 = .slice a3 N c3 ∧ (N = 0 ∨ ∃ g, a3 = some ⟨g, 0, none⟩ ∧ CellsQ w2 g lh) := by
    rcases hv3.form with ⟨h1, h2⟩ | ⟨g, cap, h1, h2, _⟩
    · refine ⟨none, 0, ?_, .inl ?_⟩
      · rw [h1, ← HNL.out, h2]; rfl
      · rw [← HNL.out, h2]; rfl
    · subst h1
      exact ⟨_, cap, by rw [HNL.out], .inr ⟨g, rfl, CellsQ.of hv3⟩⟩
  obtain ⟨a3, c3, rfl, hg3⟩ := hform
  have HG2 := Lib.hid hg3
  have HA2 := Lib.hid (HR1.out.below (Nat.le_refl _) hb2)
  have HY2 := Lib.hid (HY1.out.below (Nat.le_refl _) hb2)
  have HB2 := Lib.hid (HB1.out.trans (hb2.mono HB1.out.size))
  clear hv3 hg3 hb2 hN48 HR1 HB1 HY1 HZ1
  rw [HNL.out] at HSUB HALL
  go_wp2_with fail
  refine (law_Made ay ly cy ds _ HY2.out hly).mono ?_
  rintro e w3 ⟨⟨v2, rfl, hv2⟩, hb3⟩
  rw [hma] at hv2
  obtain ⟨a2, c2, rfl, hR2, hle2, hn2⟩ := hv2.rgs (by have := LA.out; omega)
  have HC3 := Lib.hid (RgC.mk hR2 hle2 hn2)
  have HA3 := Lib.hid (HA2.out.below (Nat.le_refl _) hb3)
  have HB3 := Lib.hid (HB2.out.trans (hb3.mono HB2.out.size))
  have hg3 : N = 0 ∨ ∃ g, a3 = some ⟨g, 0, none⟩ ∧ CellsQ w3 g lh := by
    rcases HG2.out with h | ⟨g, h1, h2⟩
    · exact .inl h
    · exact .inr ⟨g, h1, h2.later hb3⟩
  have HG3 := Lib.hid hg3
  clear hv2 hR2 hle2 hn2 hb3 hg3 hma HA2 HB2 HG2 HY2
  have HOL := Lib.hid (out_list HPL.out (by have := HN.out; omega : nn ≤ 13) KL.out (s := ((s : Int) + 1)) (by omega) (by omega) KA.out)
  obtain ⟨fs, HF⟩ : ∃ f, Hid (ckL L (nn : Int) ls [⟨(s : Int) + 1, 0, 1000, A⟩] = f) := ⟨_, Lib.hid rfl⟩
  rw [HF.out] at HOL
  have h1s : (1 : Int) + (s : Int) = (s : Int) + 1 := by omega
  have hb4 : Below w3.heap.size w3 ((w3.alloc (.cells #[.int .i64 ((s : Int) + 1), .int .i64 0, .int .i64 1000, .slice a2 A.length c2] 29)).alloc (.cells #[.int .i64 ((s : Int) + 1), .int .i64 0, .int .i64 1000, .slice a2 A.length c2] 29)) := ((Below.refl _ _).alloc (Nat.le_refl _) _).alloc (by simp) _
  have hq4 : Row ((w3.alloc (.cells #[.int .i64 ((s : Int) + 1), .int .i64 0, .int .i64 1000, .slice a2 A.length c2] 29)).alloc (.cells #[.int .i64 ((s : Int) + 1), .int .i64 0, .int .i64 1000, .slice a2 A.length c2] 29)) w3.heap.size 29 #[.int .i64 ((s : Int) + 1), .int .i64 0, .int .i64 1000, .slice a2 A.length c2] := (Row.new w3 _ _).alloc _
  have hp4 : Row ((w3.alloc (.cells #[.int .i64 ((s : Int) + 1), .int .i64 0, .int .i64 1000, .slice a2 A.length c2] 29)).alloc (.cells #[.int .i64 ((s : Int) + 1), .int .i64 0, .int .i64 1000, .slice a2 A.length c2] 29)) (w3.heap.size + 1) 29 #[.int .i64 ((s : Int) + 1), .int .i64 0, .int .i64 1000, .slice a2 A.length c2] := Row.new1 _ _ _ _
  have hc4 := HC3.out.below hb4
  have HM4 := Lib.hid (cms_row hp4 [⟨(s : Int) + 1, 0, 1000, A⟩] (fun i x hx => by
    match i, hx with
    | 0, hx => obtain rfl := Option.some.inj hx; exact ⟨_, c2, rfl, rfl, rfl, rfl, hc4⟩
    | i + 1, hx => simp at hx) (by simp))
  have HA4 := Lib.hid (HA3.out.below (Nat.le_refl _) hb4)
  have HB4 := Lib.hid (HB3.out.trans (hb4.mono HB3.out.size))
  have HC4 := Lib.hid hc4
  have HQ4 := Lib.hid hq4
  have hg4 : N = 0 ∨ ∃ g, a3 = some ⟨g, 0, none⟩ ∧ CellsQ ((w3.alloc (.cells #[.int .i64 ((s : Int) + 1), .int .i64 0, .int .i64 1000, .slice a2 A.length c2] 29)).alloc (.cells #[.int .i64 ((s : Int) + 1), .int .i64 0, .int .i64 1000, .slice a2 A.length c2] 29)) g lh := by
    rcases HG3.out with h | ⟨g, h1, h2⟩
    · exact .inl h
    · exact .inr ⟨g, h1, h2.later hb4⟩
  have HG4 := Lib.hid hg4
  have HW : Hid (W64 L) := Lib.hid (by have := HPL.out; unfold W64; omega)
  clear hb4 hq4 hp4 hc4 hg4 HG3 HA3 HB3 HC3
  go_wp2_with fail
  clear h1s
  refine (sg_CheckV L (nn : Int) a1 pl c1 ls (some ⟨w3.heap.size + 1, 0, none⟩) 1 1 [⟨(s : Int) + 1, 0, 1000, A⟩] HW.out _ HA4.out HM4.out).mono ?_
  rw [HOL.out.1, HF.out]
  rintro e w5 ⟨⟨v5, rfl, hv5⟩, hb5⟩
  simp only [show okE true = 0 from rfl]
  have HA5 := Lib.hid (HA4.out.below (Nat.le_refl _) hb5)
  have HB5 := Lib.hid (HB4.out.trans (hb5.mono HB4.out.size))
  have HC5 := Lib.hid (HC4.out.below hb5)
  have HQ5 := Lib.hid (HQ4.out.later hb5)
  have hg5 : N = 0 ∨ ∃ g, a3 = some ⟨g, 0, none⟩ ∧ CellsQ w5 g lh := by
    rcases HG4.out with h | ⟨g, h1, h2⟩
    · exact .inl h
    · exact .inr ⟨g, h1, h2.later hb5⟩
  have HG5 := Lib.hid hg5
  have hbl : w3.heap.size < w5.heap.size := (HQ4.out.later hb5).lt
  obtain ⟨M, HML⟩ : ∃ M, Hid (fs.length = M) := ⟨_, Lib.hid rfl⟩
  have hfv : ∃ a5 c5, v5 = .slice a5 M c5 ∧ (M = 0 ∨ ∃ g, a5 = some ⟨g, 0, none⟩ ∧ OwnF w5 0 (.slice (some ⟨g, 0, none⟩) M c5) fs) := by
    rcases hv5.form with ⟨h1, h2⟩ | ⟨g, cap, h1, h2, _⟩
    · refine ⟨none, 0, ?_, .inl ?_⟩
      · rw [h1, ← HML.out, h2]; rfl
      · rw [← HML.out, h2]; rfl
    · rw [HML.out] at h1
      subst h1
      exact ⟨_, cap, rfl, .inr ⟨g, rfl, hv5.mono (Nat.zero_le _)⟩⟩
  obtain ⟨a5, c5, rfl, hf5⟩ := hfv
  have HF5 := Lib.hid hf5
  have HML13 : Hid (M ≤ 13) := Lib.hid (by have := HOL.out.2.2.2; have := HML.out; omega)
  clear hb5 hv5 hg5 hf5 HA4 HB4 HC4 HQ4 HM4 HG4
  generalize w3.heap.size = bq at *
  go_wp2_with fail
  go_loopw [20, 58] (fun t i wr => ∃ (k : Nat), k ≤ N ∧ i = .int .i64 (k : Int) ∧ t = .int .i64 ((hs (fun h => decide (ofN ls h = s + 1) && !fitsV A h) (lh.take k) : Nat) : Int) ∧ Below w5.heap.size w5 wr) (fun _ i _ => N - (intOf i).toNat)
  case atStart => exact ⟨0, by omega, rfl, rfl, Below.refl _ _⟩
  case round =>
    obtain ⟨k, hk, rfl, rfl, hbw⟩ := hrel
    have HBW := Lib.hid hbw
    clear hbw
    by_cases hlt : k < N
    · have hd : decide ((k : Int) < (N : Int)) = true := by simp; omega
      have HAw := Lib.hid (HA5.out.below (Nat.le_refl _) HBW.out)
      have HCw := Lib.hid (HC5.out.below HBW.out)
      have HQw := Lib.hid (HQ5.out.later HBW.out)
      rcases HG5.out with h0 | ⟨g, rfl, hce0⟩
      · omega
      have hce := hce0.later HBW.out
      have hcell := hce.2 k (by have := HNL.out; omega)
      have HWZ := Lib.hid (HSUB.out k hlt)
      have HSUC := Lib.hid (hs_succ (fun h => decide (ofN ls h = s + 1) && !fitsV A h) lh k (by have := HNL.out; omega))
      generalize lh.getD k 0 = z at *
      obtain ⟨hof, hof9⟩ := ofN_eq KL.out z
      have q0 := (HQw.out.cell 0)
      have q3 := (HQw.out.cell 3)
      simp only [List.getElem?_toArray, List.getElem?_cons_zero, List.getElem?_cons_succ] at q0 q3
      have qr0 := fun dd os => cell_regrown q0 dd os
      have qr3 := fun dd os => cell_regrown q3 dd os
      have hkle : k ≤ 1048576 := by have := HN48.out; omega
      have hole : hs (fun h => decide (ofN ls h = s + 1) && !fitsV A h) (lh.take k) ≤ 1048576 := Nat.le_trans (hs_le _ _) (by rw [List.length_take]; omega)
      have HOF : Hid (∀ dd os, Calls Try.prog 23 #[.slice a1 pl c1, .int .u64 (z : Int)] (grow (redrawn wr dd) os) fun e w' => e = .returned (.int .i64 ((ofN ls z : Nat) : Int)) ∧ Below (grow (redrawn wr dd) os).heap.size (grow (redrawn wr dd) os) w') := Lib.hid fun dd os => by
        have := sg_Of a1 pl c1 ls z HWZ.out _ (HAw.out.below (Nat.le_refl _) (below_regrown wr dd os))
        rwa [hof] at this
      have HFI : Hid (∀ dd os, Calls Try.prog 24 #[.slice a2 A.length c2, .int .u64 (z : Int)] (grow (redrawn wr dd) os) fun e w' => e = .returned (.bool (fitsV A z)) ∧ Below (grow (redrawn wr dd) os).heap.size (grow (redrawn wr dd) os) w') := Lib.hid fun dd os =>
        ag_Fits a2 A.length c2 A z HWZ.out _ (HCw.out.rgs.below (Nat.le_refl _) (below_regrown wr dd os))
      generalize hs (fun h => decide (ofN ls h = s + 1) && !fitsV A h) (lh.take k) = o at *
      clear hce hce0 hof q0 q3
      generalize ofN ls z = oz at *
      obtain ⟨fz, hfz⟩ : ∃ b, fitsV A z = b := ⟨_, rfl⟩
      rw [hfz] at HFI HSUC
      by_cases hoz : oz = s + 1
      · subst hoz
        cases fz
        · have hs1 : hs (fun h => decide (ofN ls h = s + 1) && !fitsV A h) (lh.take (k + 1)) = o + 1 := by rw [HSUC.out]; simp
          have HS1 := Lib.hid hs1
          clear hs1 hfz HSUC
          go_wp2_with fail
          refine wp_region_quiet_below (by kernel_rfl) (by kernel_rfl) ?_
          repeat (first | go_big_quiet_step (fail) | quiet_step (first | exact Calls.regrown_of (HOF.out _ _) | exact Calls.regrown_of (HFI.out _ _)))
          refine wpQuiet_nil ?_
          rintro _ ⟨p, rfl⟩
          have hb := below_regrown wr p.d p.os
          have HBW2 := Lib.hid (HBW.out.trans (hb.mono HBW.out.size))
          generalize grow (redrawn wr p.d) p.os = wa at *
          clear hb
          go_wp2_with fail
          exact ⟨⟨k + 1, by omega, by simp, by rw [HS1.out]; simp, HBW2.out⟩, by simp [intOf]; omega⟩
        · have hs1 : hs (fun h => decide (ofN ls h = s + 1) && !fitsV A h) (lh.take (k + 1)) = o := by rw [HSUC.out]; simp
          have HS1 := Lib.hid hs1
          clear hs1 hfz HSUC
          go_wp2_with fail
          refine wp_region_quiet_below (by kernel_rfl) (by kernel_rfl) ?_
          repeat (first | go_big_quiet_step (fail) | quiet_step (first | exact Calls.regrown_of (HOF.out _ _) | exact Calls.regrown_of (HFI.out _ _)))
          refine wpQuiet_nil ?_
          rintro _ ⟨p, rfl⟩
          have hb := below_regrown wr p.d p.os
          have HBW2 := Lib.hid (HBW.out.trans (hb.mono HBW.out.size))
          generalize grow (redrawn wr p.d) p.os = wa at *
          clear hb
          go_wp2_with fail
          exact ⟨⟨k + 1, by omega, by simp, by rw [HS1.out], HBW2.out⟩, by simp [intOf]; omega⟩
      · have hoi : (((oz : Nat) : Int) == (s : Int) + 1) = false := by simp; omega
        have hs1 : hs (fun h => decide (ofN ls h = s + 1) && !fitsV A h) (lh.take (k + 1)) = o := by rw [HSUC.out, decide_eq_false hoz]; simp
        have HS1 := Lib.hid hs1
        clear hs1 hfz HSUC
        go_wp2_with fail
        refine wp_region_quiet_below (by kernel_rfl) (by kernel_rfl) ?_
        repeat (first | go_big_quiet_step (fail) | quiet_step (first | exact Calls.regrown_of (HOF.out _ _) | exact Calls.regrown_of (HFI.out _ _)))
        refine wpQuiet_nil ?_
        rintro _ ⟨p, rfl⟩
        have hb := below_regrown wr p.d p.os
        have HBW2 := Lib.hid (HBW.out.trans (hb.mono HBW.out.size))
        generalize grow (redrawn wr p.d) p.os = wa at *
        clear hb
        go_wp2_with fail
        exact ⟨⟨k + 1, by omega, by simp, by rw [HS1.out], HBW2.out⟩, by simp [intOf]; omega⟩
    · obtain rfl : k = N := by omega
      have hfull : lh.take k = lh := List.take_of_length_le (by have := HNL.out; omega)
      rw [hfull]
      have HT : Hid (tld fs = hs (fun h => decide (ofN ls h = s + 1) && !fitsV A h) lh) := Lib.hid (by
        have h1 := HOL.out.2.2.1
        have h2 := HSO.out
        rw [show ((s + 1 : Nat) : Int) = (s : Int) + 1 by omega] at h2
        omega)
      rw [← HT.out]
      have hfl : tld fs ≤ 1048576 := by
        rw [HT.out]
        exact Nat.le_trans (hs_le _ _) (by have := HNL.out; have := HN48.out; omega)
      have HFL := Lib.hid hfl
      have HK := Lib.hid HOL.out.2.1
      clear hfull HT hfl HOL HSO HSUB HALL HG5
      go_wp2_with fail
      go_loopw [23, 25, 80] (fun t _ i w6 => ∃ (j : Nat), j ≤ M ∧ i = .int .i64 (j : Int) ∧ t = .int .i64 ((tld (fs.take j) : Nat) : Int) ∧ Below wr.heap.size wr w6) (fun _ _ i _ => M - (intOf i).toNat)
      case atStart => exact ⟨0, by omega, rfl, rfl, Below.refl _ _⟩
      case round =>
        obtain ⟨j, hj, rfl, rfl, hbj⟩ := hrel
        have HBJ := Lib.hid hbj
        clear hbj
        have HJ13 := Lib.hid (show j ≤ 13 by have := HML13.out; omega)
        by_cases hlt2 : j < M
        · have hd2 : decide ((j : Int) < (M : Int)) = true := by simp; omega
          rcases HF5.out with h0 | ⟨g, rfl, hown⟩
          · omega
          obtain ⟨x, hx⟩ : ∃ x, fs[j]? = some x := ⟨_, List.getElem?_eq_getElem (by have := HML.out; omega)⟩
          obtain ⟨d0, d1, d2, d3⟩ := fl_at ((hown.below HBW.out).below HBJ.out) hx
          obtain ⟨hk14, hpos⟩ := HK.out x (List.mem_of_getElem? hx)
          have HSN := Lib.hid (tld_snoc hx)
          have htk : tld (fs.take (j + 1)) ≤ 1048576 := Nat.le_trans (tld_take _ _) HFL.out
          have hj13 := HJ13.out
          obtain ⟨xc, xs, xk, xh⟩ := x
          simp only at d0 d1 d2 d3 hk14 hpos HSN
          obtain ⟨h, rfl⟩ : ∃ h : Nat, xh = (h : Int) := ⟨xh.toNat, by omega⟩
          have hb7 := HBJ.out.alloc HBJ.out.size (.cells #[.int .i64 xc, .int .i64 xs, .int .u8 (xk : Int), .int .i64 (h : Int)] 46)
          have HB7 := Lib.hid hb7
          clear hb7 hpos hown hx
          rcases hk14 with rfl | rfl
          · have hs2 : tld (fs.take (j + 1)) = tld (fs.take j) + h := by rw [HSN.out]; simp
            rw [hs2] at htk
            have HS2 := Lib.hid hs2
            clear hs2 HSN
            generalize tld (fs.take j) = o at *
            go_wp2_with fail
            go_roundw
            · exact ⟨j + 1, by omega, by simp, by rw [HS2.out]; simp, HB7.out⟩
            · simp [intOf]; omega
          · have hs2 : tld (fs.take (j + 1)) = tld (fs.take j) := by rw [HSN.out]; simp
            have HS2 := Lib.hid hs2
            clear hs2 HSN
            generalize tld (fs.take j) = o at *
            go_wp2_with fail
            go_roundw
            · exact ⟨j + 1, by omega, by simp, by rw [HS2.out], HB7.out⟩
            · simp [intOf]; omega
        · obtain rfl : j = M := by omega
          have hfull : fs.take j = fs := List.take_of_length_le (by have := HML.out; omega)
          rw [hfull]
          clear hfull
          go_wp2_with fail
          refine (law41_awake _).mono ?_
          rintro e w8 ⟨rfl, hb8⟩
          have h6 := (HB5.out.trans (HBW.out.mono HB5.out.size)).trans (HBJ.out.mono (HB5.out.trans (HBW.out.mono HB5.out.size)).size)
          have HB8 := Lib.hid (h6.trans (hb8.mono h6.size))
          clear hb8 h6
          go_wp2_with fail
          go_ret
          exact ⟨rfl, HB8.out⟩
end Go.Proofs.Ytikdkhiehfccpaa
