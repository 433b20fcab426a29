/- The reference of chapter 14: Legal. -/
import Derived.Test.YtgnlmodaekfhfaaDoorMLfa
namespace Go.Proofs.YtgnlmodaekfhfaaDoor
open Go.RowKit Go.Shelf Go.Sort

attribute [-go_sem] run_equalIn_agg run_neq_struct
theorem legal_ref {d : Nat → Nat} {n : Nat} {s : St} (h : SCore d n s) (hp : s.pend = false) {m f : Nat} (hm : s.h s.turn = m) (hf : orAll (someV s m) m = f) : s.legal = pick f (s.pn s.turn) := by
  unfold St.legal
  rw [hp, can_ref h, hm, hf]; rfl
set_option maxHeartbeats 1000000 in
set_option maxRecDepth 10000 in
theorem lf_Legal {d : Nat → Nat} {n : Nat} {s : St} (hi : SInv d n s) {SA : Array Value} (hSA : SA = s.cells) (w : World) :
    Calls Tryd.prog 58 #[.agg SA] w fun e w' => e = .returned (.int .u64 (s.legal : Int)) ∧ Below w.heap.size w w' := by
  have HB := Lib.hid ((Below.refl w.heap.size w).alloc (Nat.le_refl _) (.cells SA 80))
  have HR := Lib.hid (Row.new w 80 SA)
  have HW := Lib.hid (fun (W : World) => lf_who hi.ok hSA W)
  have HZ : Hid ((Tryd.prog.info? 80).map (·.size) = some SA.size) := Lib.hid (by rw [hSA]; exact size_rst)
  have HSA := Lib.hid hSA
  obtain ⟨V, hV⟩ : ∃ V, s.legal = V := ⟨_, rfl⟩
  rw [hV]
  have HV := Lib.hid hV
  clear hSA hV
  go_enter Tryd.func58, Tryd.ntmps58
  go_upto_region 1 with fail
  generalize w.alloc (.cells SA 80) = w1 at *
  have c18 : w1.cell? ⟨w.heap.size, 18, none⟩ = some (.bool s.pend) := by rw [HR.out.cell, HSA.out]; rfl
  cases hp : s.pend
  · rw [hp] at c18
    have HP := Lib.hid hp
    clear hp
    have hn4 := s.turn_lt
    obtain ⟨tn, htn⟩ : ∃ tn, s.turn = tn := ⟨_, rfl⟩
    have hmb := hi.ok.h _ hn4
    have hpb := hi.ok.pn _ hn4
    have hmust := hi.ok.must
    have hnt := hi.ok.nt
    have hcs := hi.ok.cs 0 (by omega)
    have hct := hi.ok.ct
    have HREF := Lib.hid (fun f => legal_ref (f := f) hi.toSCore HP.out rfl)
    rw [HV.out] at HREF
    have e0 := st_hget s s.turn hn4
    have e1 := st_pget s s.turn hn4
    rw [htn] at hn4 HW HREF hmb hpb e0 e1
    obtain ⟨m, hm⟩ : ∃ m, s.h tn = m := ⟨_, rfl⟩
    obtain ⟨p, hpn⟩ : ∃ m, s.pn tn = m := ⟨_, rfl⟩
    rw [hm] at e0 hmb HREF
    rw [hpn] at e1 hpb HREF
    obtain ⟨ct, hcte⟩ : ∃ c, s.ct = c := ⟨_, rfl⟩
    obtain ⟨c0, hc0e⟩ : ∃ c, s.cs 0 = c := ⟨_, rfl⟩
    obtain ⟨mu, hmue⟩ : ∃ c, s.must = c := ⟨_, rfl⟩
    obtain ⟨nt, hnte⟩ : ∃ c, s.nt = c := ⟨_, rfl⟩
    rw [hcte] at hct
    rw [hc0e] at hcs
    rw [hmue] at hmust
    rw [hnte] at hnt
    have hsv : someV s m = if 0 < ct then land m (suitsM (2 ^ (c0 / 13))) else if land m (suitsM mu) = 0 then land m (suitsM (15 - nt % 16)) else land m (suitsM mu) := by
      unfold someV; rw [hcte, hc0e, hmue, hnte]
    have HSV := Lib.hid hsv
    have E0 := Lib.hid e0
    have E1 := Lib.hid e1
    have HCT := Lib.hid hcte
    have HC0 := Lib.hid hc0e
    have HMU := Lib.hid hmue
    have HNT := Lib.hid hnte
    have HWN := Lib.hid (fun set (hs : set < 256) W => lf_within m set (w64_52 hmb) hs W)
    have HBO := Lib.hid (fun f (hf : f < 4503599627370496) W => lf_both f p hf (w64_52 hpb) W)
    have HMB := Lib.hid hmb
    have hn4I : (tn : Int) < 4 := by omega
    clear hsv e0 e1 hcte hc0e hmue hnte hmb hpb htn hm hpn hi
    go_upto_region 4 with (first
      | refine wpList_load_row_g rfl 80 (.tmp 1) rfl w.heap.size rfl 80 SA (0, 0) _ HR.out Tryd.underlying80 rfl HZ.out ?_
      | (go_at_call 68; refine (HW.out _).mono ?_; rintro e w2 ⟨rfl, hb2⟩
         have HR2 := Lib.hid (HR.out.below HR.out.lt hb2)
         have HB2 := Lib.hid (HB.out.trans (hb2.mono HB.out.size))
         have cm : w2.cell? ⟨w.heap.size, tn, none⟩ = some (.int .u64 (m : Int)) := by rw [HR2.out.cell, HSA.out, E0.out]
         clear hb2))
    clear cm c18
    have c11 : w2.cell? ⟨w.heap.size, 11, none⟩ = some (.int .u8 (ct : Int)) := by rw [HR2.out.cell, HSA.out, ← HCT.out]; rfl
    have c12 : w2.cell? ⟨w.heap.size, 12, none⟩ = some (.int .u8 (c0 : Int)) := by rw [HR2.out.cell, HSA.out, ← HC0.out]; rfl
    have c20 : w2.cell? ⟨w.heap.size, 20, none⟩ = some (.int .u8 (mu : Int)) := by rw [HR2.out.cell, HSA.out, ← HMU.out]; rfl
    have c21 : w2.cell? ⟨w.heap.size, 21, none⟩ = some (.int .u8 (nt : Int)) := by rw [HR2.out.cell, HSA.out, ← HNT.out]; rfl
    by_cases hc : 0 < ct
    · have hcd : (c0 : Int).tdiv 13 = ((c0 / 13 : Nat) : Int) := by rw [Int.tdiv_eq_ediv_of_nonneg (by omega)]; omega
      have hcd' : (c0 : Int) / 13 = ((c0 / 13 : Nat) : Int) := by omega
      have e3 : IntKind.i64.wrap (c0 : Int) = (c0 : Int) := IntWalk.i64_in _ (by omega)
      have hs := HSV.out
      rw [if_pos hc] at hs
      obtain ⟨q, hq⟩ : ∃ q, c0 / 13 = q := ⟨_, rfl⟩
      have hq4 : q < 4 := by omega
      rw [hq] at hs hcd hcd'
      have e4 : IntKind.i64.wrap (q : Int) = (q : Int) := IntWalk.i64_in _ (by omega)
      have HO := Lib.hid (lf_one q (by omega) w2)
      have hp2 : 2 ^ q < 256 := Nat.lt_trans (Nat.pow_lt_pow_right (a := 2) (by decide) hq4) (by decide)
      have HX := HWN.out _ hp2 w2
      have hxb : land m (suitsM (2 ^ q)) < 4503599627370496 := land_lt HMB.out
      obtain ⟨x, hx⟩ : ∃ x, land m (suitsM (2 ^ q)) = x := ⟨_, rfl⟩
      rw [hx] at hs HX hxb
      generalize (2 ^ q : Nat) = pq at *
      have HSE := Lib.hid hs
      have HX := Lib.hid HX
      have HFB := Lib.hid hxb
      clear hs hx hxb hq
      by_cases hz : x = 0
      · clear HFB
        obtain ⟨f, hfm⟩ : ∃ f, f = m := ⟨_, rfl⟩
        have hf : orAll (someV s m) m = f := by rw [HSE.out, hz, hfm]; rfl
        have HFE := Lib.hid hf
        have HFB : Hid (f < 4503599627370496) := Lib.hid (by rw [hfm]; exact HMB.out)
        have HFM := Lib.hid hfm
        subst hz
        clear hf hfm
        go_upto_region 12 with (first | (go_at_call 70; refine HO.out.mono ?_; rintro e w' ⟨rfl, rfl⟩) | (go_at_call 69; refine HX.out.mono ?_; rintro e w' ⟨rfl, rfl⟩))
        rw [← HFM.out]
        obtain ⟨g, hg⟩ : ∃ g, land f p = g := ⟨_, rfl⟩
        have HV2 := HREF.out f HFE.out
        unfold pick at HV2
        have HBF := HBO.out f HFB.out
        rw [hg] at HV2 HBF
        have HBF := Lib.hid HBF
        clear hg c11 c12 c20 c21
        by_cases g0 : 0 < g
        · rw [if_pos (show g ≠ 0 by omega)] at HV2
          have HV2 := Lib.hid HV2
          go_upto_region 13 with (first
            | refine wpList_load_row_g rfl 80 (.tmp 1) rfl w.heap.size rfl 80 SA (0, 0) _ HR2.out Tryd.underlying80 rfl HZ.out ?_
            | (go_at_call 68; refine (HW.out _).mono ?_; rintro e w3 ⟨rfl, hb3⟩
               have HR3 := Lib.hid (HR2.out.below HR2.out.lt hb3)
               have HB3 := Lib.hid (HB2.out.trans (hb3.mono HB2.out.size))
               have cp : w3.cell? ⟨w.heap.size, 4 + tn, none⟩ = some (.int .u64 (p : Int)) := by rw [HR3.out.cell, HSA.out, E1.out]
               clear hb3)
            | (go_at_call 72; refine (HBF.out _).mono ?_; rintro e w' ⟨rfl, rfl⟩))
          go_wp2_with fail
          go_ret
          exact ⟨by rw [HV2.out]; rfl, HB3.out⟩
        · obtain rfl : g = 0 := by omega
          rw [if_neg (fun k => k rfl)] at HV2
          have HV2 := Lib.hid HV2
          clear g0
          go_upto_region 13 with (first
            | refine wpList_load_row_g rfl 80 (.tmp 1) rfl w.heap.size rfl 80 SA (0, 0) _ HR2.out Tryd.underlying80 rfl HZ.out ?_
            | (go_at_call 68; refine (HW.out _).mono ?_; rintro e w3 ⟨rfl, hb3⟩
               have HR3 := Lib.hid (HR2.out.below HR2.out.lt hb3)
               have HB3 := Lib.hid (HB2.out.trans (hb3.mono HB2.out.size))
               have cp : w3.cell? ⟨w.heap.size, 4 + tn, none⟩ = some (.int .u64 (p : Int)) := by rw [HR3.out.cell, HSA.out, E1.out]
               clear hb3)
            | (go_at_call 72; refine (HBF.out _).mono ?_; rintro e w' ⟨rfl, rfl⟩))
          go_wp2_with fail
          go_ret
          exact ⟨by rw [HV2.out]; rfl, HB3.out⟩
      · have hzI : (((x : Nat) : Int) == 0) = false := by rw [beq_eq_false_iff_ne]; omega
        have hf : orAll (someV s m) m = x := by rw [HSE.out]; unfold orAll; rw [if_neg hz]
        have HFE := Lib.hid hf
        clear hf hz
        go_upto_region 12 with (first | (go_at_call 70; refine HO.out.mono ?_; rintro e w' ⟨rfl, rfl⟩) | (go_at_call 69; refine HX.out.mono ?_; rintro e w' ⟨rfl, rfl⟩))
        obtain ⟨f, hfx⟩ : ∃ f, f = x := ⟨_, rfl⟩
        rw [← hfx] at HFE HFB ⊢
        clear hfx
        obtain ⟨g, hg⟩ : ∃ g, land f p = g := ⟨_, rfl⟩
        have HV2 := HREF.out f HFE.out
        unfold pick at HV2
        have HBF := HBO.out f HFB.out
        rw [hg] at HV2 HBF
        have HBF := Lib.hid HBF
        clear hg c11 c12 c20 c21
        by_cases g0 : 0 < g
        · rw [if_pos (show g ≠ 0 by omega)] at HV2
          have HV2 := Lib.hid HV2
          go_upto_region 13 with (first
            | refine wpList_load_row_g rfl 80 (.tmp 1) rfl w.heap.size rfl 80 SA (0, 0) _ HR2.out Tryd.underlying80 rfl HZ.out ?_
            | (go_at_call 68; refine (HW.out _).mono ?_; rintro e w3 ⟨rfl, hb3⟩
               have HR3 := Lib.hid (HR2.out.below HR2.out.lt hb3)
               have HB3 := Lib.hid (HB2.out.trans (hb3.mono HB2.out.size))
               have cp : w3.cell? ⟨w.heap.size, 4 + tn, none⟩ = some (.int .u64 (p : Int)) := by rw [HR3.out.cell, HSA.out, E1.out]
               clear hb3)
            | (go_at_call 72; refine (HBF.out _).mono ?_; rintro e w' ⟨rfl, rfl⟩))
          go_wp2_with fail
          go_ret
          exact ⟨by rw [HV2.out]; rfl, HB3.out⟩
        · obtain rfl : g = 0 := by omega
          rw [if_neg (fun k => k rfl)] at HV2
          have HV2 := Lib.hid HV2
          clear g0
          go_upto_region 13 with (first
            | refine wpList_load_row_g rfl 80 (.tmp 1) rfl w.heap.size rfl 80 SA (0, 0) _ HR2.out Tryd.underlying80 rfl HZ.out ?_
            | (go_at_call 68; refine (HW.out _).mono ?_; rintro e w3 ⟨rfl, hb3⟩
               have HR3 := Lib.hid (HR2.out.below HR2.out.lt hb3)
               have HB3 := Lib.hid (HB2.out.trans (hb3.mono HB2.out.size))
               have cp : w3.cell? ⟨w.heap.size, 4 + tn, none⟩ = some (.int .u64 (p : Int)) := by rw [HR3.out.cell, HSA.out, E1.out]
               clear hb3)
            | (go_at_call 72; refine (HBF.out _).mono ?_; rintro e w' ⟨rfl, rfl⟩))
          go_wp2_with fail
          go_ret
          exact ⟨by rw [HV2.out]; rfl, HB3.out⟩
    · obtain rfl : ct = 0 := by omega
      have hs := HSV.out
      rw [if_neg (show ¬ 0 < 0 by omega)] at hs
      have HY := HWN.out mu (by omega) w2
      have hyb : land m (suitsM mu) < 4503599627370496 := land_lt HMB.out
      obtain ⟨y, hy⟩ : ∃ y, land m (suitsM mu) = y := ⟨_, rfl⟩
      rw [hy] at hs HY hyb
      have HY := Lib.hid HY
      have HO := Lib.hid (lf_others nt w2)
      have HX := HWN.out (15 - nt % 16) (by omega) w2
      have hxb : land m (suitsM (15 - nt % 16)) < 4503599627370496 := land_lt HMB.out
      obtain ⟨x, hx⟩ : ∃ x, land m (suitsM (15 - nt % 16)) = x := ⟨_, rfl⟩
      rw [hx] at hs HX hxb
      generalize (15 - nt % 16 : Nat) = pq at *
      have HX := Lib.hid HX
      clear hx hy hc
      by_cases hy0 : y = 0
      · rw [if_pos hy0] at hs
        have HSE := Lib.hid hs
        have HFB := Lib.hid hxb
        subst hy0
        clear hs hxb hyb
        go_upto_region 10 with (first | (go_at_call 71; refine HO.out.mono ?_; rintro e w' ⟨rfl, rfl⟩) | (go_at_call 69; first | (with_reducible refine HY.out.mono ?_; rintro e w' ⟨rfl, rfl⟩) | (with_reducible refine HX.out.mono ?_; rintro e w' ⟨rfl, rfl⟩)))
        by_cases hz : x = 0
        · clear HFB
          obtain ⟨f, hfm⟩ : ∃ f, f = m := ⟨_, rfl⟩
          have hf : orAll (someV s m) m = f := by rw [HSE.out, hz, hfm]; rfl
          have HFE := Lib.hid hf
          have HFB : Hid (f < 4503599627370496) := Lib.hid (by rw [hfm]; exact HMB.out)
          have HFM := Lib.hid hfm
          subst hz
          clear hf hfm
          go_upto_region 12 with (fail)
          rw [← HFM.out]
          obtain ⟨g, hg⟩ : ∃ g, land f p = g := ⟨_, rfl⟩
          have HV2 := HREF.out f HFE.out
          unfold pick at HV2
          have HBF := HBO.out f HFB.out
          rw [hg] at HV2 HBF
          have HBF := Lib.hid HBF
          clear hg c11 c12 c20 c21
          by_cases g0 : 0 < g
          · rw [if_pos (show g ≠ 0 by omega)] at HV2
            have HV2 := Lib.hid HV2
            go_upto_region 13 with (first
              | refine wpList_load_row_g rfl 80 (.tmp 1) rfl w.heap.size rfl 80 SA (0, 0) _ HR2.out Tryd.underlying80 rfl HZ.out ?_
              | (go_at_call 68; refine (HW.out _).mono ?_; rintro e w3 ⟨rfl, hb3⟩
                 have HR3 := Lib.hid (HR2.out.below HR2.out.lt hb3)
                 have HB3 := Lib.hid (HB2.out.trans (hb3.mono HB2.out.size))
                 have cp : w3.cell? ⟨w.heap.size, 4 + tn, none⟩ = some (.int .u64 (p : Int)) := by rw [HR3.out.cell, HSA.out, E1.out]
                 clear hb3)
              | (go_at_call 72; refine (HBF.out _).mono ?_; rintro e w' ⟨rfl, rfl⟩))
            go_wp2_with fail
            go_ret
            exact ⟨by rw [HV2.out]; rfl, HB3.out⟩
          · obtain rfl : g = 0 := by omega
            rw [if_neg (fun k => k rfl)] at HV2
            have HV2 := Lib.hid HV2
            clear g0
            go_upto_region 13 with (first
              | refine wpList_load_row_g rfl 80 (.tmp 1) rfl w.heap.size rfl 80 SA (0, 0) _ HR2.out Tryd.underlying80 rfl HZ.out ?_
              | (go_at_call 68; refine (HW.out _).mono ?_; rintro e w3 ⟨rfl, hb3⟩
                 have HR3 := Lib.hid (HR2.out.below HR2.out.lt hb3)
                 have HB3 := Lib.hid (HB2.out.trans (hb3.mono HB2.out.size))
                 have cp : w3.cell? ⟨w.heap.size, 4 + tn, none⟩ = some (.int .u64 (p : Int)) := by rw [HR3.out.cell, HSA.out, E1.out]
                 clear hb3)
              | (go_at_call 72; refine (HBF.out _).mono ?_; rintro e w' ⟨rfl, rfl⟩))
            go_wp2_with fail
            go_ret
            exact ⟨by rw [HV2.out]; rfl, HB3.out⟩
        · have hzI : (((x : Nat) : Int) == 0) = false := by rw [beq_eq_false_iff_ne]; omega
          have hf : orAll (someV s m) m = x := by rw [HSE.out]; unfold orAll; rw [if_neg hz]
          have HFE := Lib.hid hf
          clear hf hz
          go_upto_region 12 with (fail)
          obtain ⟨f, hfx⟩ : ∃ f, f = x := ⟨_, rfl⟩
          rw [← hfx] at HFE HFB ⊢
          clear hfx
          obtain ⟨g, hg⟩ : ∃ g, land f p = g := ⟨_, rfl⟩
          have HV2 := HREF.out f HFE.out
          unfold pick at HV2
          have HBF := HBO.out f HFB.out
          rw [hg] at HV2 HBF
          have HBF := Lib.hid HBF
          clear hg c11 c12 c20 c21
          by_cases g0 : 0 < g
          · rw [if_pos (show g ≠ 0 by omega)] at HV2
            have HV2 := Lib.hid HV2
            go_upto_region 13 with (first
              | refine wpList_load_row_g rfl 80 (.tmp 1) rfl w.heap.size rfl 80 SA (0, 0) _ HR2.out Tryd.underlying80 rfl HZ.out ?_
              | (go_at_call 68; refine (HW.out _).mono ?_; rintro e w3 ⟨rfl, hb3⟩
                 have HR3 := Lib.hid (HR2.out.below HR2.out.lt hb3)
                 have HB3 := Lib.hid (HB2.out.trans (hb3.mono HB2.out.size))
                 have cp : w3.cell? ⟨w.heap.size, 4 + tn, none⟩ = some (.int .u64 (p : Int)) := by rw [HR3.out.cell, HSA.out, E1.out]
                 clear hb3)
              | (go_at_call 72; refine (HBF.out _).mono ?_; rintro e w' ⟨rfl, rfl⟩))
            go_wp2_with fail
            go_ret
            exact ⟨by rw [HV2.out]; rfl, HB3.out⟩
          · obtain rfl : g = 0 := by omega
            rw [if_neg (fun k => k rfl)] at HV2
            have HV2 := Lib.hid HV2
            clear g0
            go_upto_region 13 with (first
              | refine wpList_load_row_g rfl 80 (.tmp 1) rfl w.heap.size rfl 80 SA (0, 0) _ HR2.out Tryd.underlying80 rfl HZ.out ?_
              | (go_at_call 68; refine (HW.out _).mono ?_; rintro e w3 ⟨rfl, hb3⟩
                 have HR3 := Lib.hid (HR2.out.below HR2.out.lt hb3)
                 have HB3 := Lib.hid (HB2.out.trans (hb3.mono HB2.out.size))
                 have cp : w3.cell? ⟨w.heap.size, 4 + tn, none⟩ = some (.int .u64 (p : Int)) := by rw [HR3.out.cell, HSA.out, E1.out]
                 clear hb3)
              | (go_at_call 72; refine (HBF.out _).mono ?_; rintro e w' ⟨rfl, rfl⟩))
            go_wp2_with fail
            go_ret
            exact ⟨by rw [HV2.out]; rfl, HB3.out⟩
      · rw [if_neg hy0] at hs
        have hy0I : ((y : Int) == 0) = false := by rw [beq_eq_false_iff_ne]; omega
        have hf : orAll (someV s m) m = y := by rw [hs]; unfold orAll; rw [if_neg hy0]
        have HFE := Lib.hid hf
        have HFB := Lib.hid hyb
        clear hs hf hy0 hxb hyb
        go_upto_region 12 with (go_at_call 69; refine HY.out.mono ?_; rintro e w' ⟨rfl, rfl⟩)
        obtain ⟨f, hfx⟩ : ∃ f, f = y := ⟨_, rfl⟩
        rw [← hfx] at HFE HFB ⊢
        clear hfx
        obtain ⟨g, hg⟩ : ∃ g, land f p = g := ⟨_, rfl⟩
        have HV2 := HREF.out f HFE.out
        unfold pick at HV2
        have HBF := HBO.out f HFB.out
        rw [hg] at HV2 HBF
        have HBF := Lib.hid HBF
        clear hg c11 c12 c20 c21
        by_cases g0 : 0 < g
        · rw [if_pos (show g ≠ 0 by omega)] at HV2
          have HV2 := Lib.hid HV2
          go_upto_region 13 with (first
            | refine wpList_load_row_g rfl 80 (.tmp 1) rfl w.heap.size rfl 80 SA (0, 0) _ HR2.out Tryd.underlying80 rfl HZ.out ?_
            | (go_at_call 68; refine (HW.out _).mono ?_; rintro e w3 ⟨rfl, hb3⟩
               have HR3 := Lib.hid (HR2.out.below HR2.out.lt hb3)
               have HB3 := Lib.hid (HB2.out.trans (hb3.mono HB2.out.size))
               have cp : w3.cell? ⟨w.heap.size, 4 + tn, none⟩ = some (.int .u64 (p : Int)) := by rw [HR3.out.cell, HSA.out, E1.out]
               clear hb3)
            | (go_at_call 72; refine (HBF.out _).mono ?_; rintro e w' ⟨rfl, rfl⟩))
          go_wp2_with fail
          go_ret
          exact ⟨by rw [HV2.out]; rfl, HB3.out⟩
        · obtain rfl : g = 0 := by omega
          rw [if_neg (fun k => k rfl)] at HV2
          have HV2 := Lib.hid HV2
          clear g0
          go_upto_region 13 with (first
            | refine wpList_load_row_g rfl 80 (.tmp 1) rfl w.heap.size rfl 80 SA (0, 0) _ HR2.out Tryd.underlying80 rfl HZ.out ?_
            | (go_at_call 68; refine (HW.out _).mono ?_; rintro e w3 ⟨rfl, hb3⟩
               have HR3 := Lib.hid (HR2.out.below HR2.out.lt hb3)
               have HB3 := Lib.hid (HB2.out.trans (hb3.mono HB2.out.size))
               have cp : w3.cell? ⟨w.heap.size, 4 + tn, none⟩ = some (.int .u64 (p : Int)) := by rw [HR3.out.cell, HSA.out, E1.out]
               clear hb3)
            | (go_at_call 72; refine (HBF.out _).mono ?_; rintro e w' ⟨rfl, rfl⟩))
          go_wp2_with fail
          go_ret
          exact ⟨by rw [HV2.out]; rfl, HB3.out⟩
  · rw [hp] at c18
    have hv : V = 0 := by rw [← HV.out]; unfold St.legal; rw [hp]; rfl
    have HV2 := Lib.hid hv
    clear hv hp
    go_wp2_with fail
    go_ret
    exact ⟨by rw [HV2.out]; rfl, HB.out⟩
end Go.Proofs.YtgnlmodaekfhfaaDoor
