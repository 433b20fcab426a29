/- finesselaw12.agrees over this seat's program. -/
import Derived.Test.YtginbellakkliaaDoorMRro
namespace Go.Proofs.YtginbellakkliaaDoor
open Go.RowKit Go.Shelf Go.Sort Go.Maps Go.WideMaps
attribute [local go_sem] Oper.semAt_some
attribute [-go_sem] run_equalIn_agg

theorem below_keptR {w w' w'' : World} {S : Nat → Prop} (h : Below w.heap.size w w') (hk : Kept S w' w'') (hS : ∀ k, k < w.heap.size → S k) : Below w.heap.size w w'' :=
  ⟨hk.os.trans h.os, hk.tape.trans h.tape, hk.output.trans h.output, Nat.le_trans h.size hk.size, fun k hl => (hk.block k (hS k hl) (Nat.lt_of_lt_of_le hl h.size)).trans (h.block k hl)⟩
theorem own_bytR {W : World} {base n c : Nat} {a : Option Addr} {zs : List Nat} (h : OwnU W base (.slice a n c) zs) (hs : zs.length ≤ 60000) (hb : ∀ i, zs.getD i 0 < 256) : Byt W a zs.length zs := by
  obtain ⟨a', c', e, _, hy, _⟩ := own_in h hs hb
  injection e with e1 e2 e3
  rw [e1]; exact hy
set_option maxHeartbeats 8000000 in
set_option maxRecDepth 10000 in
theorem law12_agrees {d : Nat → Nat} {n : Nat} {p : Ply} {w : World} {B : Nat} {G G2 : Nat → Prop} {bk : List Nat} {PA : Array Value} (hd : Deal4 d n) (ht : Tied d n p) (hin : InP w B p G) (hr : RpIn w (toR d p) bk PA G2) :
    Calls Tryd.prog 52 #[.pointer (some ⟨B, 0, none⟩), .agg PA] w fun e w' => e = .returned (.bool true) ∧ Below w.heap.size w w' := by
  have hrk := ht.ok hd hin.ok
  obtain ⟨a, cap, a2, cap2, hPA, hz, hcap, -, -, -, -⟩ := hr
  have h1 := fun (W : World) (hb : Below w.heap.size w W) => in_turn (hin.below hb)
  have h2 := fun (W : World) (hb : Below w.heap.size w W) => rq_Turn (toR d p) hrk a cap (.slice a2 bk.length cap2) W (hz.below (Nat.le_refl _) hb) hcap
  have h3 := fun (W : World) (hb : Below w.heap.size w W) => in_chooser (hin.below hb)
  have h4 := fun (W : World) (hb : Below w.heap.size w W) => rq_Chooser (toR d p) hrk a cap (.slice a2 bk.length cap2) W (hz.below (Nat.le_refl _) hb) hcap
  have h5 := fun (W : World) (hb : Below w.heap.size w W) => in_Trick (hin.below hb)
  have h6 := fun (W : World) (hb : Below w.heap.size w W) => rq_Trick (toR d p) hrk a cap (.slice a2 bk.length cap2) W (hz.below (Nat.le_refl _) hb) hcap
  have h7 := fun (W : World) (hb : Below w.heap.size w W) => in_lastT ht (hin.below hb)
  have h8 := fun (W : World) (hb : Below w.heap.size w W) => rq_Last (toR d p) hrk a cap (.slice a2 bk.length cap2) W (hz.below (Nat.le_refl _) hb) hcap
  have h9 := fun (W : World) (hb : Below w.heap.size w W) => in_tricks (hin.below hb)
  have h10 := fun (W : World) (hb : Below w.heap.size w W) => rq_Tricks (toR d p) hrk a cap (.slice a2 bk.length cap2) W (hz.below (Nat.le_refl _) hb) hcap
  have h11 := fun (W : World) (hb : Below w.heap.size w W) => in_result (hin.below hb)
  have h12 := fun (W : World) (hb : Below w.heap.size w W) => rq_Result (toR d p) hrk a cap (.slice a2 bk.length cap2) W (hz.below (Nat.le_refl _) hb) hcap
  have h13 := fun (W : World) (hb : Below w.heap.size w W) => in_cards (hin.below hb)
  have h14 := fun (W : World) (hb : Below w.heap.size w W) => in_legal (hin.below hb)
  have h15 := fun (W : World) (hb : Below w.heap.size w W) => rq_Legal (toR d p) hrk a cap (.slice a2 bk.length cap2) W (hz.below (Nat.le_refl _) hb) hcap
  have h16 := fun (W : World) (hb : Below w.heap.size w W) (s : Nat) => in_seenT hd ht (hin.below hb) s
  have h17 := fun (W : World) (hb : Below w.heap.size w W) (s : Nat) (hs : s < 256) => rq_Seen (toR d p) hrk a cap (.slice a2 bk.length cap2) W (hz.below (Nat.le_refl _) hb) hcap s hs hd.lt
  have h18 := fun (W : World) (hb : Below w.heap.size w W) (s : Nat) (hs : s < 256) => in_hand (hin.below hb) s hs
  have h19 := fun (W : World) (hb : Below w.heap.size w W) (s : Nat) (hs : s < 256) => rq_Hand (toR d p) hrk a cap (.slice a2 bk.length cap2) W (hz.below (Nat.le_refl _) hb) hcap s hs
  rw [← hPA] at h2 h4 h6 h8 h10 h12 h15 h17 h19
  rw [ht.turn hd] at h2
  rw [ht.chooser hd] at h4
  rw [ht.trLd hd, ht.trCs hd] at h6
  rw [ht.tricks, ht.tricks] at h10
  rw [ht.result hd] at h12
  rw [ht.legal hd] at h15
  simp only [ht.hand hd] at h19
  have hlC : (toR d p).cs = p.steps.map Stp.c := rfl
  have HC8 : Hid (PA[8]? = some (.slice a (toR d p).cs.length cap)) := Lib.hid (by rw [hPA]; rfl)
  have HPZ : Hid (PA.size = 10) := Lib.hid (by rw [hPA]; rfl)
  have HZC := Lib.hid hz
  have hTl : p.st.trCs.length ≤ 52 := by rw [← ht.trCs hd]; unfold Rp.trCs; have := hrk.len; split; simp; rw [List.length_drop]; omega
  have hLl : (toR d p).lsCs.length ≤ 52 := by unfold Rp.lsCs; split; simp; rw [List.length_take]; omega
  have hCl : (toR d p).cs.length ≤ 52 := hrk.len
  have hTb : ∀ i, p.st.trCs.getD i 0 < 256 := fun i => by
    rw [← ht.trCs hd]
    have hq := hz.byte
    unfold Rp.trCs
    split
    · simp
    · have := hq (4 * ((toR d p).cs.length / 4) + i)
      rw [List.getD_eq_getElem?_getD] at this ⊢
      rwa [List.getElem?_drop]
  have hLb : ∀ i, (toR d p).lsCs.getD i 0 < 256 := fun i => by
    have hq := hz.byte
    unfold Rp.lsCs
    split
    · simp
    · have := hq (4 * ((toR d p).cs.length / 4) - 4 + i)
      rw [List.getD_eq_getElem?_getD] at this ⊢
      rw [List.getElem?_take]
      split
      · rwa [List.getElem?_drop]
      · exact (by decide : (0 : Nat) < 256)
  have HBYL := Lib.hid hTb
  have HBYS := Lib.hid hLb
  have HBYC := Lib.hid hz.byte
  rw [← hlC] at h13
  obtain ⟨TC, hTC⟩ : ∃ z, p.st.trCs = z := ⟨_, rfl⟩
  obtain ⟨LC, hLC⟩ : ∃ z, (toR d p).lsCs = z := ⟨_, rfl⟩
  obtain ⟨CC, hCC⟩ : ∃ z, (toR d p).cs = z := ⟨_, rfl⟩
  rw [hTC] at h5 h6 HBYL hTl
  rw [hLC] at h7 h8 HBYS hLl
  rw [hCC] at h13 HBYC hCl HC8 HZC
  have HLEN : Hid (TC.length ≤ 52 ∧ LC.length ≤ 52 ∧ CC.length ≤ 52) := Lib.hid ⟨hTl, hLl, hCl⟩
  generalize p.turnV.1 = x1 at h1 h2
  generalize p.turnV.2 = x2 at h1 h2
  generalize p.chooserV.1 = x3 at h3 h4
  generalize p.chooserV.2 = x4 at h3 h4
  generalize p.st.trLd = x5 at h5 h6
  generalize (toR d p).lsLd = x7 at h7 h8
  generalize decide (4 ≤ (toR d p).cs.length) = x8 at h7 h8
  generalize tkWon p.tks 0 = x9 at h9 h10
  generalize tkWon p.tks 1 = x10 at h9 h10
  generalize p.resV.1 = x11 at h11 h12
  generalize p.resV.2 = x12 at h11 h12
  generalize p.st.legal = x14 at h14 h15
  obtain ⟨fs, hfs⟩ : ∃ z, (toR d p).seenH = z := ⟨_, rfl⟩
  obtain ⟨fh, hfh⟩ : ∃ z, (toR d p).hid = z := ⟨_, rfl⟩
  obtain ⟨fp, hfp⟩ : ∃ z, p.handV = z := ⟨_, rfl⟩
  rw [hfs, hfh] at h16 h17
  rw [hfp] at h18 h19
  have H1 := Lib.hid h1
  have H2 := Lib.hid h2
  have H3 := Lib.hid h3
  have H4 := Lib.hid h4
  have H5 := Lib.hid h5
  have H6 := Lib.hid h6
  have H7 := Lib.hid h7
  have H8 := Lib.hid h8
  have H9 := Lib.hid h9
  have H10 := Lib.hid h10
  have H11 := Lib.hid h11
  have H12 := Lib.hid h12
  have H13 := Lib.hid h13
  have H14 := Lib.hid h14
  have H15 := Lib.hid h15
  have H16 := Lib.hid h16
  have H17 := Lib.hid h17
  have H18 := Lib.hid h18
  have H19 := Lib.hid h19
  clear h1 h2 h3 h4 h5 h6 h7 h8 h9 h10 h11 h12 h13 h14 h15 h16 h17 h18 h19 hfs hfh hfp hTC hLC hCC hTb hLb hTl hLl hCl hlC hz hcap hrk hPA hin ht hd
  have HB1 := Lib.hid ((Below.refl w.heap.size w).alloc (Nat.le_refl _) (.cells PA 71))
  have HR1 := Lib.hid (Row.new w 71 PA)
  have SZ0 : Hid (w.heap.size ≤ (w.alloc (.cells PA 71)).heap.size) := Lib.hid HB1.out.size
  go_enter Tryd.func52, Tryd.ntmps52
  go_upto_region 1 with fail
  show Code.wp _ _ _ _ (w.alloc (.cells PA 71))
  generalize w.alloc (.cells PA 71) = w1 at *
  obtain ⟨b, hb0⟩ : ∃ b, w.heap.size = b := ⟨_, rfl⟩
  have HBE := Lib.hid hb0
  rw [hb0] at HR1 ⊢
  clear hb0
  go_wp2_with fail
  refine (H1.out w1 HB1.out).mono ?_
  rintro e w2 ⟨rfl, hb⟩
  have HB2 := Lib.hid (HB1.out.trans (hb.mono HB1.out.size))
  have HR2 := Lib.hid (HR1.out.later hb)
  have SZ1 : Hid (w1.heap.size ≤ w2.heap.size) := Lib.hid hb.size
  clear hb HR1 HB1 H1
  go_wp2_with (refine wpList_load_row rfl 71 (.tmp 3) rfl b rfl 71 PA (0, 0) _ HR2.out Tryd.underlying71 rfl (by rw [HPZ.out]; exact size_rp) ?_)
  refine (H2.out w2 HB2.out).mono ?_
  rintro e w3 ⟨rfl, hb⟩
  have HB3 := Lib.hid (HB2.out.trans (hb.mono HB2.out.size))
  have HR3 := Lib.hid (HR2.out.later hb)
  have SZ2 : Hid (w2.heap.size ≤ w3.heap.size) := Lib.hid hb.size
  clear hb HR2 HB2 H2
  go_wp2_with fail
  refine (H3.out w3 HB3.out).mono ?_
  rintro e w4 ⟨rfl, hb⟩
  have HB4 := Lib.hid (HB3.out.trans (hb.mono HB3.out.size))
  have HR4 := Lib.hid (HR3.out.later hb)
  have SZ3 : Hid (w3.heap.size ≤ w4.heap.size) := Lib.hid hb.size
  clear hb HR3 HB3 H3
  go_wp2_with (refine wpList_load_row rfl 71 (.tmp 3) rfl b rfl 71 PA (0, 0) _ HR4.out Tryd.underlying71 rfl (by rw [HPZ.out]; exact size_rp) ?_)
  refine (H4.out w4 HB4.out).mono ?_
  rintro e w5 ⟨rfl, hb⟩
  have HB5 := Lib.hid (HB4.out.trans (hb.mono HB4.out.size))
  have HR5 := Lib.hid (HR4.out.later hb)
  have SZ4 : Hid (w4.heap.size ≤ w5.heap.size) := Lib.hid hb.size
  clear hb HR4 HB4 H4
  go_wp2_with fail
  refine (H5.out w5 HB5.out).mono ?_
  rintro e w6 ⟨vl, rfl, hown, hb⟩
  have HB6 := Lib.hid (HB5.out.trans (hb.mono HB5.out.size))
  have HR6 := Lib.hid (HR5.out.later hb)
  have SZ5 : Hid (w5.heap.size ≤ w6.heap.size) := Lib.hid hb.size
  obtain ⟨aL, cL, hv, -, -, -⟩ := own_in hown (by have := HLEN.out; omega) HBYL.out
  subst hv
  have OL6 := Lib.hid hown
  have GL : Hid (∀ g, (Value.slice aL TC.length cL).ownBlock = some g → w5.heap.size ≤ g ∧ g < w6.heap.size) := Lib.hid fun g hg => World.ownsRow.lt hown.2 g hg
  clear hown
  clear hb HR5 HB5 H5
  go_wp2_with (refine wpList_load_row rfl 71 (.tmp 3) rfl b rfl 71 PA (0, 0) _ HR6.out Tryd.underlying71 rfl (by rw [HPZ.out]; exact size_rp) ?_)
  refine (H6.out w6 HB6.out).mono ?_
  rintro e w7 ⟨am, cm, rfl, hby, hb⟩
  have HB7 := Lib.hid (HB6.out.trans (hb.mono HB6.out.size))
  have HR7 := Lib.hid (HR6.out.later hb)
  have SZ6 : Hid (w6.heap.size ≤ w7.heap.size) := Lib.hid hb.size
  have OL7 := Lib.hid (Owns.below OL6.out hb)
  have YM7 := Lib.hid hby
  clear hby
  clear hb HR6 HB6 H6 OL6
  go_wp2_with fail
  refine (H7.out w7 HB7.out).mono ?_
  rintro e w8 ⟨vs, rfl, hown, hb⟩
  have HB8 := Lib.hid (HB7.out.trans (hb.mono HB7.out.size))
  have HR8 := Lib.hid (HR7.out.later hb)
  have SZ7 : Hid (w7.heap.size ≤ w8.heap.size) := Lib.hid hb.size
  have OL8 := Lib.hid (Owns.below OL7.out hb)
  have YM8 := Lib.hid (YM7.out.below (Nat.le_refl _) hb)
  obtain ⟨aS, cS, hv, -, -, -⟩ := own_in hown (by have := HLEN.out; omega) HBYS.out
  subst hv
  have OS8 := Lib.hid hown
  have GS : Hid (∀ g, (Value.slice aS LC.length cS).ownBlock = some g → w7.heap.size ≤ g ∧ g < w8.heap.size) := Lib.hid fun g hg => World.ownsRow.lt hown.2 g hg
  clear hown
  clear hb HR7 HB7 H7 OL7 YM7
  go_wp2_with (refine wpList_load_row rfl 71 (.tmp 3) rfl b rfl 71 PA (0, 0) _ HR8.out Tryd.underlying71 rfl (by rw [HPZ.out]; exact size_rp) ?_)
  refine (H8.out w8 HB8.out).mono ?_
  rintro e w9 ⟨at2, ct, rfl, hby, hb⟩
  have HB9 := Lib.hid (HB8.out.trans (hb.mono HB8.out.size))
  have HR9 := Lib.hid (HR8.out.later hb)
  have SZ8 : Hid (w8.heap.size ≤ w9.heap.size) := Lib.hid hb.size
  have OL9 := Lib.hid (Owns.below OL8.out hb)
  have YM9 := Lib.hid (YM8.out.below (Nat.le_refl _) hb)
  have OS9 := Lib.hid (Owns.below OS8.out hb)
  have YT9 := Lib.hid hby
  clear hby
  clear hb HR8 HB8 H8 OL8 YM8 OS8
  go_wp2_with fail
  refine (H9.out w9 HB9.out).mono ?_
  rintro e w10 ⟨rfl, hb⟩
  have HB10 := Lib.hid (HB9.out.trans (hb.mono HB9.out.size))
  have HR10 := Lib.hid (HR9.out.later hb)
  have SZ9 : Hid (w9.heap.size ≤ w10.heap.size) := Lib.hid hb.size
  have OL10 := Lib.hid (Owns.below OL9.out hb)
  have YM10 := Lib.hid (YM9.out.below (Nat.le_refl _) hb)
  have OS10 := Lib.hid (Owns.below OS9.out hb)
  have YT10 := Lib.hid (YT9.out.below (Nat.le_refl _) hb)
  clear hb HR9 HB9 H9 OL9 YM9 OS9 YT9
  go_wp2_with (refine wpList_load_row rfl 71 (.tmp 3) rfl b rfl 71 PA (0, 0) _ HR10.out Tryd.underlying71 rfl (by rw [HPZ.out]; exact size_rp) ?_)
  refine (H10.out w10 HB10.out).mono ?_
  rintro e w11 ⟨rfl, hb⟩
  have HB11 := Lib.hid (HB10.out.trans (hb.mono HB10.out.size))
  have HR11 := Lib.hid (HR10.out.later hb)
  have SZ10 : Hid (w10.heap.size ≤ w11.heap.size) := Lib.hid hb.size
  have OL11 := Lib.hid (Owns.below OL10.out hb)
  have YM11 := Lib.hid (YM10.out.below (Nat.le_refl _) hb)
  have OS11 := Lib.hid (Owns.below OS10.out hb)
  have YT11 := Lib.hid (YT10.out.below (Nat.le_refl _) hb)
  clear hb HR10 HB10 H10 OL10 YM10 OS10 YT10
  go_wp2_with fail
  refine (H11.out w11 HB11.out).mono ?_
  rintro e w12 ⟨rfl, hb⟩
  have HB12 := Lib.hid (HB11.out.trans (hb.mono HB11.out.size))
  have HR12 := Lib.hid (HR11.out.later hb)
  have SZ11 : Hid (w11.heap.size ≤ w12.heap.size) := Lib.hid hb.size
  have OL12 := Lib.hid (Owns.below OL11.out hb)
  have YM12 := Lib.hid (YM11.out.below (Nat.le_refl _) hb)
  have OS12 := Lib.hid (Owns.below OS11.out hb)
  have YT12 := Lib.hid (YT11.out.below (Nat.le_refl _) hb)
  clear hb HR11 HB11 H11 OL11 YM11 OS11 YT11
  go_wp2_with (refine wpList_load_row rfl 71 (.tmp 3) rfl b rfl 71 PA (0, 0) _ HR12.out Tryd.underlying71 rfl (by rw [HPZ.out]; exact size_rp) ?_)
  refine (H12.out w12 HB12.out).mono ?_
  rintro e w13 ⟨rfl, hb⟩
  have HB13 := Lib.hid (HB12.out.trans (hb.mono HB12.out.size))
  have HR13 := Lib.hid (HR12.out.later hb)
  have SZ12 : Hid (w12.heap.size ≤ w13.heap.size) := Lib.hid hb.size
  have OL13 := Lib.hid (Owns.below OL12.out hb)
  have YM13 := Lib.hid (YM12.out.below (Nat.le_refl _) hb)
  have OS13 := Lib.hid (Owns.below OS12.out hb)
  have YT13 := Lib.hid (YT12.out.below (Nat.le_refl _) hb)
  clear hb HR12 HB12 H12 OL12 YM12 OS12 YT12
  go_wp2_with fail
  refine (H13.out w13 HB13.out).mono ?_
  rintro e w14 ⟨vc, rfl, hown, hb⟩
  have HB14 := Lib.hid (HB13.out.trans (hb.mono HB13.out.size))
  have HR14 := Lib.hid (HR13.out.later hb)
  have SZ13 : Hid (w13.heap.size ≤ w14.heap.size) := Lib.hid hb.size
  have OL14 := Lib.hid (Owns.below OL13.out hb)
  have YM14 := Lib.hid (YM13.out.below (Nat.le_refl _) hb)
  have OS14 := Lib.hid (Owns.below OS13.out hb)
  have YT14 := Lib.hid (YT13.out.below (Nat.le_refl _) hb)
  obtain ⟨aC, cC, hv, -, -, -⟩ := own_in hown (by have := HLEN.out; omega) HBYC.out
  subst hv
  have OC14 := Lib.hid hown
  have GC : Hid (∀ g, (Value.slice aC CC.length cC).ownBlock = some g → w13.heap.size ≤ g ∧ g < w14.heap.size) := Lib.hid fun g hg => World.ownsRow.lt hown.2 g hg
  clear hown
  clear hb HR13 HB13 H13 OL13 YM13 OS13 YT13
  have c8 : w14.cell? ⟨b, 8, none⟩ = some (.slice a CC.length cap) := (HR14.out.cell 8).trans HC8.out
  have SA := Lib.hid (fun (W : World) (hb : Below w14.heap.size w14 W) => same_true aL am TC.length cL cm TC W ((own_bytR OL14.out (by have := HLEN.out; omega) HBYL.out).below (Nat.le_refl _) hb) (YM14.out.below (Nat.le_refl _) hb))
  have SB := Lib.hid (fun (W : World) (hb : Below w14.heap.size w14 W) => same_true aS at2 LC.length cS ct LC W ((own_bytR OS14.out (by have := HLEN.out; omega) HBYS.out).below (Nat.le_refl _) hb) (YT14.out.below (Nat.le_refl _) hb))
  have SC := Lib.hid (fun (W : World) (hb : Below w14.heap.size w14 W) => same_true aC a CC.length cC cap CC W ((own_bytR OC14.out (by have := HLEN.out; omega) HBYC.out).below (Nat.le_refl _) hb) ((HZC.out.below (Nat.le_refl _) (HB14.out.trans (hb.mono HB14.out.size)))))
  have HBX := Lib.hid (fun (W : World) (hb : Below w14.heap.size w14 W) => HB14.out.trans (hb.mono HB14.out.size))
  have r8 := fun dd os => cell_regrown c8 dd os
  go_upto_region 14 with fail
  refine wp_region_quiet_below (by kernel_rfl) (by kernel_rfl) ?_
  try simp only [List.cons_append, List.nil_append]
  repeat (first
    | go_big_quiet_step (fail)
    | quiet_step (with_reducible exact Calls.regrown_of (SA.out _ (below_regrown _ _ _)))
    | quiet_step (with_reducible exact Calls.regrown_of (SB.out _ (below_regrown _ _ _)))
    | quiet_step (with_reducible exact Calls.regrown_of (SC.out _ (below_regrown _ _ _)))
    | quiet_step (with_reducible exact Calls.regrown_of (H14.out _ (HBX.out _ (below_regrown _ _ _))))
    | quiet_step (with_reducible exact Calls.regrown_of (H15.out _ (HBX.out _ (below_regrown _ _ _))))
    | (refine quiet_rowC (by rfl) 71 (.tmp 3) rfl b rfl (fun w' hw' => by obtain ⟨q, rfl⟩ := hw'; exact HR14.out.later (below_regrown _ _ _)) Tryd.underlying71 rfl (by rw [HPZ.out]; exact size_rp) ?_))
  refine wpQuiet_nil ?_
  rintro _ ⟨qq, rfl⟩
  have HN19 := Lib.hid (below_regrown w14 qq.d qq.os)
  generalize grow (redrawn w14 qq.d) qq.os = w19 at *
  clear SA SB SC H14 H15 c8 r8
  go_upto_region 17 with fail
  go_loopg [32] 5 (fun g sv wr => ∃ (s : Nat), g = 5 - s ∧ s ≤ 5 ∧ sv = .int .u8 (s : Int) ∧ Below w14.heap.size w14 wr)
  case atStart => exact ⟨0, rfl, by omega, rfl, HN19.out⟩
  case round =>
    obtain ⟨s, rfl, hs, rfl, hbr⟩ := hrel
    have HN := Lib.hid hbr
    clear hbr
    by_cases hs5 : s < 5
    · have hd : decide (s < 5) = true := by simp; omega
      have h16 := fun (W : World) (hb : Below w.heap.size w W) => H16.out W hb s
      have h17 := fun (W : World) (hb : Below w.heap.size w W) => H17.out W hb s (by omega)
      have h18 := fun (W : World) (hb : Below w.heap.size w W) => H18.out W hb s (by omega)
      have h19 := fun (W : World) (hb : Below w.heap.size w W) => H19.out W hb s (by omega)
      have heq := eq_arr (fs s)
      have HQZ' : Hid ((arr4 (fs s)).size = 4 ∧ (arr4 (fs s)).all (·.oneCell') = true) := Lib.hid ⟨rfl, by simp [arr4, Value.oneCell']⟩
      obtain ⟨QA, hQA⟩ : ∃ z, arr4 (fs s) = z := ⟨_, rfl⟩
      rw [hQA] at h16 h17 heq HQZ'
      obtain ⟨qh, hqh⟩ : ∃ z, fh s = z := ⟨_, rfl⟩
      rw [hqh] at h16 h17
      obtain ⟨qp, hqp⟩ : ∃ z, fp s = z := ⟨_, rfl⟩
      rw [hqp] at h18 h19
      have K16 := Lib.hid h16
      have K17 := Lib.hid h17
      have K18 := Lib.hid h18
      have K19 := Lib.hid h19
      clear h16 h17 h18 h19 hQA hqh hqp
      go_wp2_with fail
      refine (K16.out wr (HB14.out.trans (HN.out.mono HB14.out.size))).mono ?_
      rintro e w20 ⟨rfl, hb⟩
      have HN20 := Lib.hid (HN.out.trans (hb.mono HN.out.size))
      clear hb K16
      have HQ0 := Lib.hid (Row.new w20 26 #[.int .u64 0, .int .u64 0, .int .u64 0, .int .u64 0])
      go_upto_region 20 with (refine wpList_store_row rfl 26 (.tmp 33) (.tmp 188) rfl w20.heap.size QA rfl rfl 26 _ HQ0.out (by rw [HQZ'.out.1]; exact size_dealR) (by rw [HQZ'.out.1]; rfl) HQZ'.out.2 ?_)
      have HN21 := Lib.hid (below_setRow (HN20.out.alloc HN20.out.size (.cells #[.int .u64 0, .int .u64 0, .int .u64 0, .int .u64 0] 26)) HN20.out.size QA)
      have H33 := Lib.hid (show Row ((w20.alloc (.cells #[.int .u64 0, .int .u64 0, .int .u64 0, .int .u64 0] 26)).setRow w20.heap.size QA) w20.heap.size 26 QA from setRow_heap _ _ _ _ _ _ HQ0.out)
      have HR21 := Lib.hid (HR14.out.later HN21.out)
      generalize (w20.alloc (.cells #[.int .u64 0, .int .u64 0, .int .u64 0, .int .u64 0] 26)).setRow w20.heap.size QA = w21 at *
      obtain ⟨y3, hy3⟩ : ∃ z, w20.heap.size = z := ⟨_, rfl⟩
      rw [hy3] at H33 ⊢
      clear hy3 HQ0
      go_wp2_with (refine wpList_load_row rfl 71 (.tmp 3) rfl b rfl 71 PA (0, 0) _ HR21.out Tryd.underlying71 rfl (by rw [HPZ.out]; exact size_rp) ?_)
      refine (K17.out w21 (HB14.out.trans (HN21.out.mono HB14.out.size))).mono ?_
      rintro e w22 ⟨rfl, hb⟩
      have HN22 := Lib.hid (HN21.out.trans (hb.mono HN21.out.size))
      have H33' := Lib.hid (H33.out.later hb)
      clear hb K17 H33 HR21
      have HQ1 := Lib.hid (Row.new w22 26 #[.int .u64 0, .int .u64 0, .int .u64 0, .int .u64 0])
      go_upto_region 21 with (refine wpList_store_row rfl 26 (.tmp 35) (.tmp 194) rfl w22.heap.size QA rfl rfl 26 _ HQ1.out (by rw [HQZ'.out.1]; exact size_dealR) (by rw [HQZ'.out.1]; rfl) HQZ'.out.2 ?_)
      have ha := below_setRow ((Below.refl w22.heap.size w22).alloc (Nat.le_refl _) (.cells #[.int .u64 0, .int .u64 0, .int .u64 0, .int .u64 0] 26)) (Nat.le_refl _) QA
      have HN23 := Lib.hid (HN22.out.trans (ha.mono HN22.out.size))
      have H33 := Lib.hid (H33'.out.later ha)
      have H35 := Lib.hid (show Row ((w22.alloc (.cells #[.int .u64 0, .int .u64 0, .int .u64 0, .int .u64 0] 26)).setRow w22.heap.size QA) w22.heap.size 26 QA from setRow_heap _ _ _ _ _ _ HQ1.out)
      have HR23 := Lib.hid (HR14.out.later HN23.out)
      generalize (w22.alloc (.cells #[.int .u64 0, .int .u64 0, .int .u64 0, .int .u64 0] 26)).setRow w22.heap.size QA = w23 at *
      obtain ⟨y5, hy5⟩ : ∃ z, w22.heap.size = z := ⟨_, rfl⟩
      rw [hy5] at H35 ⊢
      clear hy5 HQ1 ha H33'
      have HBY := Lib.hid (fun (W : World) (hb : Below w23.heap.size w23 W) => (HB14.out.trans (HN23.out.mono HB14.out.size)).trans (hb.mono (HB14.out.trans (HN23.out.mono HB14.out.size)).size))
      refine wp_region_quiet_below (by kernel_rfl) (by kernel_rfl) ?_
      repeat (first
        | go_big_quiet_step (fail)
        | quiet_step (with_reducible exact Calls.regrown_of ((K18.out _ (HBY.out _ (below_regrown _ _ _))).mono fun _ _ ⟨he, hw⟩ => ⟨he, hw ▸ Below.refl _ _⟩))
        | quiet_step (with_reducible exact Calls.regrown_of (K19.out _ (HBY.out _ (below_regrown _ _ _))))
        | (refine quiet_rowC (by rfl) 71 (.tmp 3) rfl b rfl (fun w' hw' => by obtain ⟨q, rfl⟩ := hw'; exact HR23.out.later (below_regrown _ _ _)) Tryd.underlying71 rfl (by rw [HPZ.out]; exact size_rp) ?_)
        | (refine quiet_rowC (by rfl) 26 (.tmp 33) rfl y3 rfl (fun w' hw' => by obtain ⟨q, rfl⟩ := hw'; exact H33.out.later (below_regrown _ _ _)) Tryd.underlying26 rfl (by rw [HQZ'.out.1]; exact size_dealR) ?_)
        | (refine quiet_rowC (by rfl) 26 (.tmp 35) rfl y5 rfl (fun w' hw' => by obtain ⟨q, rfl⟩ := hw'; exact H35.out.later (below_regrown _ _ _)) Tryd.underlying26 rfl (by rw [HQZ'.out.1]; exact size_dealR) ?_))
      refine wpQuiet_nil ?_
      rintro _ ⟨qq, rfl⟩
      have HN24 := Lib.hid (HN23.out.trans ((below_regrown w23 qq.d qq.os).mono HN23.out.size))
      generalize grow (redrawn w23 qq.d) qq.os = w24 at *
      clear K18 K19 heq
      go_wp2_with fail
      go_roundg (5 - (s + 1))
      case measure => omega
      case rel => exact ⟨s + 1, rfl, by omega, by go_num, HN24.out⟩
    · have hd : decide (s < 5) = false := by simp; omega
      have HQL := Lib.hid (Owns.below OL14.out HN.out)
      have HQS := Lib.hid (Owns.below OS14.out HN.out)
      have HQC := Lib.hid (Owns.below OC14.out HN.out)
      have HBF := Lib.hid (HB14.out.trans (HN.out.mono HB14.out.size))
      have HLS : Hid (∀ g, (Value.slice aS LC.length cS).ownBlock = some g → some g ≠ (Value.slice aL TC.length cL).ownBlock) := Lib.hid fun g hg e => by
        have q1 := GS.out g hg; have q2 := GL.out g e.symm; have q3 := SZ6.out; omega
      have HLC : Hid (∀ g, (Value.slice aC CC.length cC).ownBlock = some g → some g ≠ (Value.slice aL TC.length cL).ownBlock) := Lib.hid fun g hg e => by
        have q1 := GC.out g hg; have q2 := GL.out g e.symm; have := SZ6.out; have := SZ7.out; have := SZ8.out; have := SZ9.out; have := SZ10.out; have := SZ11.out; have := SZ12.out; omega
      have HSC : Hid (∀ g, (Value.slice aC CC.length cC).ownBlock = some g → some g ≠ (Value.slice aS LC.length cS).ownBlock) := Lib.hid fun g hg e => by
        have q1 := GC.out g hg; have q2 := GS.out g e.symm; have := SZ8.out; have := SZ9.out; have := SZ10.out; have := SZ11.out; have := SZ12.out; omega
      have HFL : Hid (∀ k, k < w.heap.size → some k ≠ (Value.slice aL TC.length cL).ownBlock) := Lib.hid fun k hk e => by
        have q2 := GL.out k e.symm; have := SZ0.out; have := SZ1.out; have := SZ2.out; have := SZ3.out; have := SZ4.out; omega
      have HFS : Hid (∀ k, k < w.heap.size → some k ≠ (Value.slice aS LC.length cS).ownBlock) := Lib.hid fun k hk e => by
        have q2 := GS.out k e.symm; have := SZ0.out; have := SZ1.out; have := SZ2.out; have := SZ3.out; have := SZ4.out; have := SZ5.out; have := SZ6.out; omega
      have HFC : Hid (∀ k, k < w.heap.size → some k ≠ (Value.slice aC CC.length cC).ownBlock) := Lib.hid fun k hk e => by
        have q2 := GC.out k e.symm; have := SZ0.out; have := SZ1.out; have := SZ2.out; have := SZ3.out; have := SZ4.out; have := SZ5.out; have := SZ6.out; have := SZ7.out; have := SZ8.out; have := SZ9.out; have := SZ10.out; have := SZ11.out; have := SZ12.out; omega
      go_wp2_with fail
      refine (kit_over HQL.out (by have := HLEN.out; omega)).mono ?_
      rintro e w30 ⟨rfl, hk⟩
      have HQS2 := Lib.hid (own_keptR HQS.out hk HLS.out)
      have HQC2 := Lib.hid (own_keptR HQC.out hk HLC.out)
      have HBF2 := Lib.hid (below_keptR HBF.out hk HFL.out)
      clear hk HQL HQS HQC HBF
      go_wp2_with fail
      refine (kit_over HQS2.out (by have := HLEN.out; omega)).mono ?_
      rintro e w31 ⟨rfl, hk⟩
      have HQC3 := Lib.hid (own_keptR HQC2.out hk HSC.out)
      have HBF3 := Lib.hid (below_keptR HBF2.out hk HFS.out)
      clear hk HQS2 HQC2 HBF2
      go_wp2_with fail
      refine (kit_over HQC3.out (by have := HLEN.out; omega)).mono ?_
      rintro e w32 ⟨rfl, hk⟩
      have HBF4 := Lib.hid (below_keptR HBF3.out hk HFC.out)
      clear hk HQC3 HBF3
      go_wp2_with fail
      go_ret
      exact ⟨rfl, HBF4.out⟩
end Go.Proofs.YtginbellakkliaaDoor
