/- finesselaw12.played over this seat's program: any deal, any contract, any acts. -/
import Derived.Test.YtginbellakkliaaDoorRrG
import Derived.Test.YtginbellakkliaaDoorRrN
import Derived.Test.YtginbellakkliaaDoorMRrh
namespace Go.Proofs.YtginbellakkliaaDoor
open Go.RowKit Go.Shelf Go.Sort Go.Maps Go.WideMaps
attribute [local go_sem] Oper.semAt_some
attribute [-go_sem] run_equalIn_agg

set_option maxHeartbeats 8000000 in
set_option maxRecDepth 10000 in
theorem law12_played (d : Nat → Nat) (hw : ∀ i, W64 (d i)) (hf : ∀ j, 4 ≤ j → d j = 0) (lv dn rk dc : Nat) (al : Option Addr) (ll cl : Nat) (zs : List AcP) (w : World) (hzl : ActsP w al ll zs) (hT : Tab w) :
    Calls Tryd.prog 34 #[.agg #[.int .u64 (d 0 : Int), .int .u64 (d 1 : Int), .int .u64 (d 2 : Int), .int .u64 (d 3 : Int)], .agg #[.int .u8 (lv : Int), .int .u8 (dn : Int), .int .u8 (rk : Int), .int .u8 (dc : Int)], .slice al ll cl] w fun e w' => e = .returned (.bool true) ∧ Below w.heap.size w w' := by
  have HT0 := Lib.hid hT
  have HAC := Lib.hid hzl
  have hnewno := fun (h : newE d lv dn rk dc ≠ 0) (W : World) => play_new_no d lv dn rk dc (fun i _ => hw i) h W
  have hnewok := fun (h : newE d lv dn rk dc = 0) (G : Nat → Prop) (W : World) (hG : ∀ g, G g → g < W.heap.size) (hTW : Tab W) (ht : G 0) => in_new d lv dn rk dc hw h G W hG hTW ht
  have hrnew := fun (W : World) => rq_New d lv dn rk dc (fun i _ => hw i) W
  have HNZ : Hid ((newA d lv dn rk dc).size = 10 ∧ (newA d lv dn rk dc).all (·.oneCell') = true) := Lib.hid (by
    unfold newA; split
    · exact ⟨rfl, rp_one _ _ _ _ _ _ _⟩
    · exact ⟨rfl, by simp [Value.oneCell']⟩)
  have HNI := Lib.hid (fun (h : newE d lv dn rk dc = 0) (G : Nat → Prop) (W : World) => newA_in d lv dn rk dc h G W)
  have HD4 : Hid (newE d lv dn rk dc = 0 → Deal4 d (pop (d 0))) := Lib.hid fun h => deal4_of hw hf (by
    unfold newE at h
    split at h
    · split at h
      · assumption
      · cases h
    · rename_i h2; exact absurd h h2)
  have HLN : Hid (newE d lv dn rk dc = 0 → ∀ n, Deal4 d n → Legit d n (newP d lv dn rk dc)) := Lib.hid fun h n hd => Legit.new hd hw h
  have hlen := hzl.length
  have hsmall := hzl.small
  obtain ⟨NA, hNA⟩ : ∃ z, newA d lv dn rk dc = z := ⟨_, rfl⟩
  obtain ⟨ne, hne⟩ : ∃ z, newE d lv dn rk dc = z := ⟨_, rfl⟩
  obtain ⟨p0, hp0⟩ : ∃ z, newP d lv dn rk dc = z := ⟨_, rfl⟩
  have HPN : Hid (toR d p0 = newR d lv dn rk dc ∧ p0.back = []) := Lib.hid (by rw [← hp0]; exact ⟨rfl, rfl⟩)
  rw [hne] at hnewno hnewok hrnew HNI HD4 HLN
  rw [hNA] at hrnew HNZ HNI
  rw [hp0] at hnewok HLN
  obtain ⟨DA, hDA⟩ : ∃ z : Array Value, #[.int .u64 (d 0 : Int), .int .u64 (d 1 : Int), .int .u64 (d 2 : Int), .int .u64 (d 3 : Int)] = z := ⟨_, rfl⟩
  obtain ⟨CA, hCA⟩ : ∃ z : Array Value, #[.int .u8 (lv : Int), .int .u8 (dn : Int), .int .u8 (rk : Int), .int .u8 (dc : Int)] = z := ⟨_, rfl⟩
  have HDZ : Hid (DA.size = 4) := Lib.hid (by rw [← hDA]; rfl)
  have HCZ : Hid (CA.size = 4) := Lib.hid (by rw [← hCA]; rfl)
  rw [hDA, hCA] at hnewno hnewok hrnew
  rw [hDA, hCA]
  have HNN := Lib.hid hnewno
  have HNO := Lib.hid hnewok
  have HRN := Lib.hid hrnew
  clear hnewno hnewok hrnew hzl hT hNA hne hp0 hDA hCA hw hf
  have hz1 := Row.new (w.alloc (.cells DA 26)) 28 CA
  rw [show (w.alloc (.cells DA 26)).heap.size = w.heap.size + 1 by simp] at hz1
  have HRD1 := Lib.hid ((Row.new w 26 DA).alloc (.cells CA 28))
  have HRC1 := Lib.hid hz1
  have HB1 := Lib.hid (((Below.refl w.heap.size w).alloc (Nat.le_refl _) (.cells DA 26)).alloc (by simp) (.cells CA 28))
  clear hz1
  go_enter Tryd.func34, Tryd.ntmps34
  go_upto_region 1 with fail
  show Code.wp _ _ _ _ ((w.alloc (.cells DA 26)).alloc (.cells CA 28))
  generalize (w.alloc (.cells DA 26)).alloc (.cells CA 28) = w1 at *
  obtain ⟨b3, hb3⟩ : ∃ b, w.heap.size = b := ⟨_, rfl⟩
  obtain ⟨b4, hb4⟩ : ∃ x, w.heap.size + 1 = x := ⟨_, rfl⟩
  rw [hb4] at HRC1 ⊢
  rw [hb3] at HRD1 ⊢
  clear hb3 hb4
  by_cases h0 : ne = 0
  rotate_left
  · have hb0 : ((ne : Int) != 0) = true := by rw [bne_iff_ne]; omega
    have HN1 := Lib.hid (fun W => HNN.out h0 W)
    clear h0
    go_wp2_with (first
      | refine wpList_load_row rfl 26 (.tmp 3) rfl b3 rfl 26 DA (0, 0) _ HRD1.out Tryd.underlying26 rfl (by rw [HDZ.out]; exact size_dealN) ?_
      | refine wpList_load_row rfl 28 (.tmp 4) rfl b4 rfl 28 CA (0, 0) _ HRC1.out Tryd.underlying28 rfl (by rw [HCZ.out]; exact size_contrN) ?_)
    refine (HN1.out w1).mono ?_
    rintro e w2 ⟨rfl, hb2⟩
    have HRD2 := Lib.hid (HRD1.out.later hb2)
    have HRC2 := Lib.hid (HRC1.out.later hb2)
    have HB2 := Lib.hid (HB1.out.trans (hb2.mono HB1.out.size))
    clear hb2 HRD1 HRC1 HB1
    go_wp2_with (first
      | refine wpList_load_row rfl 26 (.tmp 3) rfl b3 rfl 26 DA (0, 0) _ HRD2.out Tryd.underlying26 rfl (by rw [HDZ.out]; exact size_dealN) ?_
      | refine wpList_load_row rfl 28 (.tmp 4) rfl b4 rfl 28 CA (0, 0) _ HRC2.out Tryd.underlying28 rfl (by rw [HCZ.out]; exact size_contrN) ?_)
    refine (HRN.out w2).mono ?_
    rintro e w3 ⟨rfl, hb3⟩
    have HB3 := Lib.hid (HB2.out.trans (hb3.mono HB2.out.size))
    clear hb3 HRD2 HRC2 HB2
    have HQ := Lib.hid (Row.new w3 71 zeroRp)
    go_upto_region 3 with (refine wpList_store_row rfl 71 (.tmp 9) (.tmp 24) rfl w3.heap.size NA rfl rfl 71 _ HQ.out (by rw [HNZ.out.1]; exact size_rp) (by rw [HNZ.out.1]; rfl) HNZ.out.2 ?_)
    have HB4 := Lib.hid (HB3.out.trans ((below_setRow ((Below.refl w3.heap.size w3).alloc (Nat.le_refl _) (.cells zeroRp 71)) (Nat.le_refl _) NA).mono HB3.out.size))
    change Code.wp _ _ _ _ ((w3.alloc (.cells zeroRp 71)).setRow w3.heap.size NA)
    generalize (w3.alloc (.cells zeroRp 71)).setRow w3.heap.size NA = w4 at *
    generalize w3.heap.size = b9 at *
    clear HQ
    go_wp2_with fail
    refine (no_Do (w := w4) (pv := .pointer none) 0 (.inl rfl)).mono ?_
    rintro e w5 ⟨rfl, rfl⟩
    go_wp2_with fail
    refine (no_Undo (w := w4) (pv := .pointer none) (.inl rfl)).mono ?_
    rintro e w5 ⟨rfl, rfl⟩
    go_wp2_with fail
    refine (no_Redo (w := w4) (pv := .pointer none) (.inl rfl)).mono ?_
    rintro e w5 ⟨rfl, rfl⟩
    go_wp2_with fail
    go_ret
    exact ⟨rfl, HB4.out⟩
  · subst h0
    have HD := Lib.hid (HD4.out rfl)
    obtain ⟨n, hn⟩ : ∃ n, pop (d 0) = n := ⟨_, rfl⟩
    rw [hn] at HD
    have HL0 := Lib.hid (HLN.out rfl n HD.out)
    have HN1 := Lib.hid (HNO.out rfl (fun g => g < w.heap.size) w1 (fun g hg => Nat.lt_of_lt_of_le hg HB1.out.size) (HT0.out.below HT0.out.pos HB1.out) HT0.out.pos)
    have HNI0 := Lib.hid (fun G W => HNI.out rfl G W)
    clear hn HD4 HLN HNN HNO HNI
    go_wp2_with (first
      | refine wpList_load_row rfl 26 (.tmp 3) rfl b3 rfl 26 DA (0, 0) _ HRD1.out Tryd.underlying26 rfl (by rw [HDZ.out]; exact size_dealN) ?_
      | refine wpList_load_row rfl 28 (.tmp 4) rfl b4 rfl 28 CA (0, 0) _ HRC1.out Tryd.underlying28 rfl (by rw [HCZ.out]; exact size_contrN) ?_)
    refine HN1.out.mono ?_
    rintro e w2 ⟨B, rfl, hin, hb2⟩
    have HIN := Lib.hid hin
    have HRD2 := Lib.hid (HRD1.out.later hb2)
    have HRC2 := Lib.hid (HRC1.out.later hb2)
    have HB2 := Lib.hid (HB1.out.trans (hb2.mono HB1.out.size))
    clear hb2 hin HRD1 HRC1 HB1 HN1
    go_wp2_with (first
      | refine wpList_load_row rfl 26 (.tmp 3) rfl b3 rfl 26 DA (0, 0) _ HRD2.out Tryd.underlying26 rfl (by rw [HDZ.out]; exact size_dealN) ?_
      | refine wpList_load_row rfl 28 (.tmp 4) rfl b4 rfl 28 CA (0, 0) _ HRC2.out Tryd.underlying28 rfl (by rw [HCZ.out]; exact size_contrN) ?_)
    refine (HRN.out w2).mono ?_
    rintro e w3 ⟨rfl, hb3⟩
    have HB3 := Lib.hid (HB2.out.trans (hb3.mono HB2.out.size))
    have HB23 := Lib.hid hb3
    clear hb3 HRD2 HRC2 HRN
    have HQ := Lib.hid (Row.new w3 71 zeroRp)
    go_upto_region 3 with (refine wpList_store_row rfl 71 (.tmp 9) (.tmp 24) rfl w3.heap.size NA rfl rfl 71 _ HQ.out (by rw [HNZ.out.1]; exact size_rp) (by rw [HNZ.out.1]; rfl) HNZ.out.2 ?_)
    have HB34 := Lib.hid (below_setRow ((Below.refl w3.heap.size w3).alloc (Nat.le_refl _) (.cells zeroRp 71)) (Nat.le_refl _) NA)
    have HR4 := Lib.hid (show Row ((w3.alloc (.cells zeroRp 71)).setRow w3.heap.size NA) w3.heap.size 71 NA from setRow_heap _ _ _ _ _ _ HQ.out)
    have HS4 : Hid (((w3.alloc (.cells zeroRp 71)).setRow w3.heap.size NA).heap.size = w3.heap.size + 1) := Lib.hid (by rw [size_setRow]; simp)
    change Code.wp _ _ _ _ ((w3.alloc (.cells zeroRp 71)).setRow w3.heap.size NA)
    generalize (w3.alloc (.cells zeroRp 71)).setRow w3.heap.size NA = w4 at *
    have HTW : Hid (Two w w4 B w3.heap.size d p0 NA (fun _ => False)) := Lib.hid ⟨HIN.out.more (HB23.out.trans (HB34.out.mono HB23.out.size)) (fun g hg => by
        rcases hg with hg | hg | hg
        · exact .inl hg
        · exact .inr ⟨by rw [hg]; exact HB23.out.size, by rw [hg, HS4.out]; omega⟩
        · exact hg.elim) (.inl HT0.out.pos), by rw [HPN.out.1, HPN.out.2]; exact HNI0.out _ _, HR4.out, HB3.out.size, fun h => h, HB3.out.trans (HB34.out.mono HB3.out.size)⟩
    obtain ⟨b9, hb9⟩ : ∃ z, w3.heap.size = z := ⟨_, rfl⟩
    rw [hb9] at HTW ⊢
    clear hb9 HQ HR4 HS4 HB34 HB23 HB3 HB2 HIN HNI0 HPN
    have HAG := Lib.hid (law12_agrees HD.out HL0.out.tied HTW.out.inp HTW.out.ref)
    go_upto_region 7 with fail
    go_wp2_with (refine wpList_load_row rfl 71 (.tmp 9) rfl b9 rfl 71 NA (0, 0) _ HTW.out.row Tryd.underlying71 rfl (by rw [HNZ.out.1]; exact size_rp) ?_)
    refine HAG.out.mono ?_
    rintro e w5 ⟨rfl, hb5⟩
    have HT5 := Lib.hid (HTW.out.below hb5)
    clear hb5 HAG HTW
    go_upto_region 10 with fail
    go_loopg [57] ll (fun g iv wr => ∃ (i : Nat) (p : Ply) (PA : Array Value) (Gs : Nat → Prop), g = ll - i ∧ i ≤ ll ∧ iv = .int .i64 (i : Int) ∧ Legit d n p ∧ Two w wr B b9 d p PA Gs)
    case atStart => exact ⟨0, p0, NA, _, rfl, by omega, rfl, HL0.out, HT5.out⟩
    case round =>
      clear HT5 HL0 HNZ
      obtain ⟨i, p, PA, Gs, rfl, hi, rfl, hl, htw⟩ := hrel
      have HL := Lib.hid hl
      have HTW := Lib.hid htw
      have HZ := Lib.hid htw.ref.size
      have HP := Lib.hid htw.inp.ok
      clear hl htw
      by_cases hlt : i < ll
      · have hd : decide (i < ll) = true := by simp; omega
        have hiI : (i : Int) < (ll : Int) := by omega
        have hkl : i < zs.length := by omega
        have hak : zs[i]? = some zs[i] := List.getElem?_eq_getElem hkl
        have hok := HAC.out.ok i _ hak
        obtain ⟨ba, off, rfl, hba, hcc⟩ : ∃ b off, al = some ⟨b, off, none⟩ ∧ b < w.heap.size ∧ ∀ (i : Nat) x, zs[i]? = some x → ∀ j, j < 2 → w.cell? ⟨b, off + i * 2 + j, none⟩ = x.cells[j]? := by
          rcases HAC.out.cells with h0 | h
          · omega
          · exact h
        obtain ⟨a, ha⟩ : ∃ a, a = zs[i] := ⟨_, rfl⟩
        rw [← ha] at hok hak
        have h0 := (HTW.out.bel.cell (p := ⟨ba, off + i * 2 + 0, none⟩) hba).trans (hcc i _ hak 0 (by omega))
        have h1 := (HTW.out.bel.cell (p := ⟨ba, off + i * 2 + 1, none⟩) hba).trans (hcc i _ hak 1 (by omega))
        simp only [List.getElem?_toArray, List.getElem?_cons_zero, List.getElem?_cons_succ, Nat.add_zero] at h0 h1
        obtain ⟨k, hk⟩ : ∃ k, a.kind = k := ⟨_, rfl⟩
        obtain ⟨c, hc⟩ : ∃ c, a.card = c := ⟨_, rfl⟩
        have hk256 : k < 256 := hk ▸ hok.kind
        have hc256 : c < 256 := hc ▸ hok.card
        rw [hk] at h0
        rw [hc] at h1
        have HTA := Lib.hid (HTW.out.add (.cells #[.int .u8 (k : Int), .int .u8 (c : Int)] 77))
        have HRA := Lib.hid (Row.new wr 77 #[.int .u8 (k : Int), .int .u8 (c : Int)])
        clear hkl hak hok hcc ha hk hc
        go_upto_region 12 with fail
        show Code.wp _ _ _ _ (wr.alloc (.cells #[.int .u8 (k : Int), .int .u8 (c : Int)] 77))
        generalize wr.alloc (.cells #[.int .u8 (k : Int), .int .u8 (c : Int)] 77) = wA at *
        obtain ⟨y, hy⟩ : ∃ y, wr.heap.size = y := ⟨_, rfl⟩
        rw [hy] at HRA HTA ⊢
        clear hy h0 h1 hba HTW
        have c0 : wA.cell? ⟨y, 0, none⟩ = some (.int .u8 (k : Int)) := HRA.out.cell 0
        have c1 : wA.cell? ⟨y, 1, none⟩ = some (.int .u8 (c : Int)) := HRA.out.cell 1
        obtain ⟨m, hm⟩ : ∃ m, k % 8 = m := ⟨_, rfl⟩
        have e1 : (k : Int).tmod 8 = (m : Int) := by rw [Int.tmod_eq_emod_of_nonneg (by omega)]; omega
        have e1' : (k : Int) % 8 = (m : Int) := by omega
        have e2 : IntKind.u8.wrap (m : Int) = (m : Int) := by rw [IntKind.wrap_u8]; omega
        clear hm
        by_cases h5 : m = 5
        · have hq5 : ((m : Int) == 5) = true := by rw [beq_iff_eq]; omega
          have hq6 : ((m : Int) == 6) = false := by rw [beq_eq_false_iff_ne]; omega
          have hq7 : ((m : Int) == 7) = false := by rw [beq_eq_false_iff_ne]; omega
          clear h5
          go_wp2_with fail
          refine (two_undo HTA.out).mono ?_
          rintro e w6 ⟨rfl, hH⟩
          have HH := Lib.hid hH
          clear hH
          go_wp2_with (refine wpList_load_row rfl 71 (.tmp 9) rfl b9 rfl 71 PA (0, 0) _ HH.out.row Tryd.underlying71 rfl (by rw [HZ.out.1]; exact size_rp) ?_)
          refine (half_undo HH.out HL.out HD.out HP.out).mono ?_
          rintro e w7 ⟨PA', rfl, hz1, hz2, ⟨PA0, hz0, hrow0⟩, Gs', hTw⟩
          have HZ7 := Lib.hid (And.intro hz1 (And.intro hz2 hz0))
          have HR7 := Lib.hid hrow0
          have HT7 := Lib.hid hTw
          clear hz1 hz2 hz0 hrow0 hTw HH
          go_upto_region 30 with (refine wpList_store_row rfl 71 (.tmp 9) (.tmp 82) rfl b9 PA' rfl rfl 71 _ HR7.out (by rw [HZ7.out.1]; exact size_rp) (by rw [HZ7.out.2.2, HZ7.out.1]) HZ7.out.2.1 ?_)
          generalize w7.setRow b9 PA' = w8 at *
          have HLG := Lib.hid (HL.out.undo)
          have HAG := Lib.hid (law12_agrees HD.out HLG.out.tied HT7.out.inp HT7.out.ref)
          clear HR7
          go_wp2_with (refine load_row_g (by rfl) 71 (.tmp 9) rfl b9 rfl 71 PA' (0, 0) _ HT7.out.row Tryd.underlying71 rfl (by rw [HZ7.out.1]; exact size_rp) ?_)
          refine HAG.out.mono ?_
          rintro e w9 ⟨rfl, hb9⟩
          have HT9 := Lib.hid (HT7.out.below hb9)
          clear hb9 HAG HT7
          go_wp2_with fail
          go_roundg (ll - (i + 1))
          case measure => omega
          case rel => exact ⟨i + 1, _, PA', Gs', rfl, by omega, by go_num, HLG.out, HT9.out⟩
        by_cases h6 : m = 6
        · have hq5 : ((m : Int) == 5) = false := by rw [beq_eq_false_iff_ne]; omega
          have hq6 : ((m : Int) == 6) = true := by rw [beq_iff_eq]; omega
          have hq7 : ((m : Int) == 7) = false := by rw [beq_eq_false_iff_ne]; omega
          clear h5 h6
          go_wp2_with fail
          refine (two_redo HTA.out).mono ?_
          rintro e w6 ⟨rfl, hH⟩
          have HH := Lib.hid hH
          clear hH
          go_wp2_with (refine wpList_load_row rfl 71 (.tmp 9) rfl b9 rfl 71 PA (0, 0) _ HH.out.row Tryd.underlying71 rfl (by rw [HZ.out.1]; exact size_rp) ?_)
          refine (half_redo HH.out HL.out HD.out HP.out).mono ?_
          rintro e w7 ⟨PA', rfl, hz1, hz2, ⟨PA0, hz0, hrow0⟩, Gs', hTw⟩
          have HZ7 := Lib.hid (And.intro hz1 (And.intro hz2 hz0))
          have HR7 := Lib.hid hrow0
          have HT7 := Lib.hid hTw
          clear hz1 hz2 hz0 hrow0 hTw HH
          go_upto_region 30 with (refine wpList_store_row rfl 71 (.tmp 9) (.tmp 91) rfl b9 PA' rfl rfl 71 _ HR7.out (by rw [HZ7.out.1]; exact size_rp) (by rw [HZ7.out.2.2, HZ7.out.1]) HZ7.out.2.1 ?_)
          generalize w7.setRow b9 PA' = w8 at *
          have HLG := Lib.hid (HL.out.redo)
          have HAG := Lib.hid (law12_agrees HD.out HLG.out.tied HT7.out.inp HT7.out.ref)
          clear HR7
          go_wp2_with (refine load_row_g (by rfl) 71 (.tmp 9) rfl b9 rfl 71 PA' (0, 0) _ HT7.out.row Tryd.underlying71 rfl (by rw [HZ7.out.1]; exact size_rp) ?_)
          refine HAG.out.mono ?_
          rintro e w9 ⟨rfl, hb9⟩
          have HT9 := Lib.hid (HT7.out.below hb9)
          clear hb9 HAG HT7
          go_wp2_with fail
          go_roundg (ll - (i + 1))
          case measure => omega
          case rel => exact ⟨i + 1, _, PA', Gs', rfl, by omega, by go_num, HLG.out, HT9.out⟩
        by_cases h7 : m = 7
        · have hq5 : ((m : Int) == 5) = false := by rw [beq_eq_false_iff_ne]; omega
          have hq6 : ((m : Int) == 6) = false := by rw [beq_eq_false_iff_ne]; omega
          have hq7 : ((m : Int) == 7) = true := by rw [beq_iff_eq]; omega
          clear h5 h6 h7
          obtain ⟨c5, hc5⟩ : ∃ z, c % 52 = z := ⟨_, rfl⟩
          have e3 : (c : Int).tmod 52 = (c5 : Int) := by rw [Int.tmod_eq_emod_of_nonneg (by omega)]; omega
          have e3' : (c : Int) % 52 = (c5 : Int) := by omega
          have hc52 : c5 < 52 := by omega
          have e4 : IntKind.u8.wrap (c5 : Int) = (c5 : Int) := by rw [IntKind.wrap_u8]; omega
          clear hc5
          go_upto_region 24 with fail
          clear c0 c1 e1 e1' e2 e3 e3' e4 hq5 hq6 hq7
          go_loopg [13, 98] 52 (fun g cv kv wr => ∃ (z k2 : Nat), g = 52 - k2 ∧ k2 ≤ 52 ∧ kv = .int .i64 (k2 : Int) ∧ cv = .int .u8 (z : Int) ∧ z < 52 ∧ Two w wr B b9 d p PA (fun g => Gs g ∨ g = y))
          case atStart => exact ⟨c5, 0, rfl, by omega, rfl, rfl, hc52, HTA.out⟩
          case round =>
            clear HTA HRA
            obtain ⟨z, k2, rfl, hk2, rfl, rfl, hz52, htw⟩ := hrel
            have HTW := Lib.hid htw
            clear htw
            by_cases hlt2 : k2 < 52
            · have hd2 : decide (k2 < 52) = true := by simp; omega
              have HLE := Lib.hid (two_legal HTW.out HL.out HD.out)
              have HLW := Lib.hid (legal_w64 HP.out.st)
              obtain ⟨L, hL⟩ : ∃ L, p.st.legal = L := ⟨_, rfl⟩
              rw [hL] at HLE HLW
              clear hL
              have hLw := HLW.out
              go_wp2_with (refine wpList_load_row rfl 71 (.tmp 9) rfl b9 rfl 71 PA (0, 0) _ HTW.out.row Tryd.underlying71 rfl (by rw [HZ.out.1]; exact size_rp) ?_)
              refine HLE.out.mono ?_
              rintro e w5 ⟨rfl, hb5⟩
              have HTB := Lib.hid (HTW.out.below hb5)
              clear hb5 HTW HLE
              have hb1 := bitAt_one L z
              cases hbt : L.testBit z
              · rw [hbt] at hb1
                obtain ⟨z2, hz2⟩ : ∃ q, (z + 1) % 52 = q := ⟨_, rfl⟩
                have f1 : ((z : Int) + 1).tmod 52 = (z2 : Int) := by rw [Int.tmod_eq_emod_of_nonneg (by omega)]; omega
                have f1' : ((z : Int) + 1) % 52 = (z2 : Int) := by omega
                have f2 : IntKind.u8.wrap ((z : Int) + 1) = (z : Int) + 1 := by rw [IntKind.wrap_u8]; omega
                have f3 : IntKind.u8.wrap (z2 : Int) = (z2 : Int) := by rw [IntKind.wrap_u8]; omega
                have hz2l : z2 < 52 := by omega
                clear hz2
                go_wp2_with fail
                go_roundg (52 - (k2 + 1))
                case measure => omega
                case rel => exact ⟨z2, k2 + 1, rfl, by omega, by go_num, rfl, hz2l, HTB.out⟩
              · rw [hbt] at hb1
                have hz256 : z < 256 := by omega
                go_upto_region 28 with fail
                clear hb1 hbt hLw
                go_wp2_with fail
                refine (two_do HTB.out HL.out HD.out hz256).mono ?_
                rintro e w6 ⟨rfl, hH⟩
                have HH := Lib.hid hH
                clear hH
                go_wp2_with (refine wpList_load_row rfl 71 (.tmp 9) rfl b9 rfl 71 PA (0, 0) _ HH.out.row Tryd.underlying71 rfl (by rw [HZ.out.1]; exact size_rp) ?_)
                refine (half_do HH.out HL.out HD.out HP.out hz256).mono ?_
                rintro e w7 ⟨PA', rfl, hz1, hz2, ⟨PA0, hz0, hrow0⟩, Gs', hTw⟩
                have HZ7 := Lib.hid (And.intro hz1 (And.intro hz2 hz0))
                have HR7 := Lib.hid hrow0
                have HT7 := Lib.hid hTw
                clear hz1 hz2 hz0 hrow0 hTw HH
                go_upto_region 30 with (refine wpList_store_row rfl 71 (.tmp 9) (.tmp 117) rfl b9 PA' rfl rfl 71 _ HR7.out (by rw [HZ7.out.1]; exact size_rp) (by rw [HZ7.out.2.2, HZ7.out.1]) HZ7.out.2.1 ?_)
                generalize w7.setRow b9 PA' = w8 at *
                have HLG := Lib.hid (HL.out.do HD.out HP.out z)
                have HAG := Lib.hid (law12_agrees HD.out HLG.out.tied HT7.out.inp HT7.out.ref)
                clear HR7
                go_wp2_with (refine load_row_g (by rfl) 71 (.tmp 9) rfl b9 rfl 71 PA' (0, 0) _ HT7.out.row Tryd.underlying71 rfl (by rw [HZ7.out.1]; exact size_rp) ?_)
                refine HAG.out.mono ?_
                rintro e w9 ⟨rfl, hb9⟩
                have HT9 := Lib.hid (HT7.out.below hb9)
                clear hb9 HAG HT7
                go_wp2_with fail
                go_roundg (ll - (i + 1))
                case measure => omega
                case rel => exact ⟨i + 1, _, PA', Gs', rfl, by omega, by go_num, HLG.out, HT9.out⟩
            · have hd2 : decide (k2 < 52) = false := by simp; omega
              have hz256 : z < 256 := by omega
              go_upto_region 28 with fail
              go_wp2_with fail
              refine (two_do HTW.out HL.out HD.out hz256).mono ?_
              rintro e w6 ⟨rfl, hH⟩
              have HH := Lib.hid hH
              clear hH
              go_wp2_with (refine wpList_load_row rfl 71 (.tmp 9) rfl b9 rfl 71 PA (0, 0) _ HH.out.row Tryd.underlying71 rfl (by rw [HZ.out.1]; exact size_rp) ?_)
              refine (half_do HH.out HL.out HD.out HP.out hz256).mono ?_
              rintro e w7 ⟨PA', rfl, hz1, hz2, ⟨PA0, hz0, hrow0⟩, Gs', hTw⟩
              have HZ7 := Lib.hid (And.intro hz1 (And.intro hz2 hz0))
              have HR7 := Lib.hid hrow0
              have HT7 := Lib.hid hTw
              clear hz1 hz2 hz0 hrow0 hTw HH
              go_upto_region 30 with (refine wpList_store_row rfl 71 (.tmp 9) (.tmp 117) rfl b9 PA' rfl rfl 71 _ HR7.out (by rw [HZ7.out.1]; exact size_rp) (by rw [HZ7.out.2.2, HZ7.out.1]) HZ7.out.2.1 ?_)
              generalize w7.setRow b9 PA' = w8 at *
              have HLG := Lib.hid (HL.out.do HD.out HP.out z)
              have HAG := Lib.hid (law12_agrees HD.out HLG.out.tied HT7.out.inp HT7.out.ref)
              clear HR7
              go_wp2_with (refine load_row_g (by rfl) 71 (.tmp 9) rfl b9 rfl 71 PA' (0, 0) _ HT7.out.row Tryd.underlying71 rfl (by rw [HZ7.out.1]; exact size_rp) ?_)
              refine HAG.out.mono ?_
              rintro e w9 ⟨rfl, hb9⟩
              have HT9 := Lib.hid (HT7.out.below hb9)
              clear hb9 HAG HT7
              go_wp2_with fail
              go_roundg (ll - (i + 1))
              case measure => omega
              case rel => exact ⟨i + 1, _, PA', Gs', rfl, by omega, by go_num, HLG.out, HT9.out⟩
        · have hq5 : ((m : Int) == 5) = false := by rw [beq_eq_false_iff_ne]; omega
          have hq6 : ((m : Int) == 6) = false := by rw [beq_eq_false_iff_ne]; omega
          have hq7 : ((m : Int) == 7) = false := by rw [beq_eq_false_iff_ne]; omega
          clear h5 h6 h7
          go_wp2_with fail
          refine (two_doK HTA.out HL.out HD.out hc256).mono ?_
          rintro e w6 ⟨rfl, hH, hk⟩
          have c1 : w6.cell? ⟨y, 1, none⟩ = some (.int .u8 (c : Int)) := (hk.cell (p := ⟨y, 1, none⟩) (.inr rfl) HRA.out.lt).trans (HRA.out.cell 1)
          clear hk
          have HH := Lib.hid hH
          clear hH
          go_wp2_with (refine wpList_load_row rfl 71 (.tmp 9) rfl b9 rfl 71 PA (0, 0) _ HH.out.row Tryd.underlying71 rfl (by rw [HZ.out.1]; exact size_rp) ?_)
          refine (half_do HH.out HL.out HD.out HP.out hc256).mono ?_
          rintro e w7 ⟨PA', rfl, hz1, hz2, ⟨PA0, hz0, hrow0⟩, Gs', hTw⟩
          have HZ7 := Lib.hid (And.intro hz1 (And.intro hz2 hz0))
          have HR7 := Lib.hid hrow0
          have HT7 := Lib.hid hTw
          clear hz1 hz2 hz0 hrow0 hTw HH
          go_upto_region 30 with (refine wpList_store_row rfl 71 (.tmp 9) (.tmp 73) rfl b9 PA' rfl rfl 71 _ HR7.out (by rw [HZ7.out.1]; exact size_rp) (by rw [HZ7.out.2.2, HZ7.out.1]) HZ7.out.2.1 ?_)
          generalize w7.setRow b9 PA' = w8 at *
          have HLG := Lib.hid (HL.out.do HD.out HP.out c)
          have HAG := Lib.hid (law12_agrees HD.out HLG.out.tied HT7.out.inp HT7.out.ref)
          clear HR7
          go_wp2_with (refine load_row_g (by rfl) 71 (.tmp 9) rfl b9 rfl 71 PA' (0, 0) _ HT7.out.row Tryd.underlying71 rfl (by rw [HZ7.out.1]; exact size_rp) ?_)
          refine HAG.out.mono ?_
          rintro e w9 ⟨rfl, hb9⟩
          have HT9 := Lib.hid (HT7.out.below hb9)
          clear hb9 HAG HT7
          go_wp2_with fail
          go_roundg (ll - (i + 1))
          case measure => omega
          case rel => exact ⟨i + 1, _, PA', Gs', rfl, by omega, by go_num, HLG.out, HT9.out⟩
      · have hd : decide (i < ll) = false := by simp; omega
        go_wp2_with fail
        go_ret
        exact ⟨rfl, HTW.out.bel⟩
end Go.Proofs.YtginbellakkliaaDoor
