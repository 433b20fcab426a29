/- DummyTables over this seat's program. -/
import Derived.Test.YtpobcaopfeddgaaDoorDmMa
namespace Go.Proofs.YtpobcaopfeddgaaDoor
open Go.RowKit Go.Sort Go.Shelf Go.Maps Go.WideMaps

abbrev Z20 : Array Value := #[.int .i64 0, .int .i64 0, .int .i64 0, .int .i64 0, .int .i64 0, .int .i64 0, .int .i64 0, .int .i64 0, .int .i64 0, .int .i64 0, .int .i64 0, .int .i64 0, .int .i64 0, .int .i64 0, .int .i64 0, .int .i64 0, .int .i64 0, .int .i64 0, .int .i64 0, .int .i64 0]
/-- the table of the hands passed on by one seat -/
theorem mkF_turn {h : Nat → Nat} {q : Nat} (H : DealtP h q) (hq : q ≤ 6) {d s : Nat} (hs : s < 4) : mkF (rotN h 3) q (d * 4 + (s + 1) % 4) = mkF h q (d * 4 + s) := by
  unfold mkF
  rw [show (d * 4 + (s + 1) % 4) % 4 = (s + 1) % 4 by omega, show (d * 4 + (s + 1) % 4) / 4 = d by omega, show (d * 4 + s) % 4 = s by omega, show (d * 4 + s) / 4 = d by omega]
  have h1 := rotN_val H hq (ld := (s + 1) % 4) (i := 3) (by omega) (by decide) d
  rw [show ((s + 1) % 4 + 4 - 3) % 4 = ((s + 1) % 4 + 1) % 4 by omega, if_neg (by decide)] at h1
  rw [h1]
  have h2 := val_le d (4 * q) q ⟨h, (s + 1) % 4, []⟩ (by simp) (H.pos hq (ld := (s + 1) % 4) (by omega)).evn (by simp)
  unfold sideV
  rcases (show s % 2 = 0 ∨ s % 2 = 1 by omega) with e | e
  · rw [if_neg (by omega), if_pos e]; omega
  · rw [if_pos (by omega), if_neg (by omega)]
set_option maxHeartbeats 4000000 in
set_option maxRecDepth 10000 in
theorem law_DummyTables (a : Option Addr) (len cap : Nat) (zs : List Nat) (n : Nat) (w : World) (hz : Byt w a len zs) (hn : n < 256) (hT : Tab w) :
    Calls Tryd.prog 9 #[.slice a len cap, .int .u8 (n : Int)] w fun e w' => e = .returned (.bool true) ∧ Below w.heap.size w w' := by
  have HT := Lib.hid hT
  have HDE := Lib.hid (dm_Dealt a len cap zs n 0 0 3 hn (by decide) (by decide) (by decide) w hz)
  have hq3 : n % (3 + 1) ≤ 3 := by omega
  obtain ⟨q, hq⟩ : ∃ q, n % (3 + 1) = q := ⟨_, rfl⟩
  rw [hq] at HDE
  rw [hq] at hq3
  simp only [show ((3 : Nat) : Int) = 3 from rfl, show ((0 : Nat) : Int) = 0 from rfl, Nat.zero_mod] at HDE
  clear hq hz hT
  go_enter Tryd.func9, Tryd.ntmps9
  go_wp2_with fail
  refine HDE.out.mono ?_
  rintro e w1 ⟨h, hD, rfl, hb1⟩
  have HD := Lib.hid hD
  have HPZ : Hid ((posA h 0 0 (.slice none 0 0)).size = 7 ∧ (posA h 0 0 (.slice none 0 0)).all (·.oneCell') = true) := Lib.hid ⟨rfl, by simp [posA, Value.oneCell']⟩
  have HPC : Hid (∀ s, s < 4 → (posA h 0 0 (.slice none 0 0))[s]? = some (.int .u64 (h s : Int))) := Lib.hid fun s hs => posA_h _ _ _ _ hs
  have HM1 := Lib.hid (fun W (hT : Tab W) => dm_Makes_ok h q hD.w64 W hT (hD.right (by omega) (by omega) (by omega)) (hD.pops 0 (by decide)) (by omega))
  have hD3 := rotN_dealt hD 3
  have HM3 := Lib.hid (fun W (hT : Tab W) => dm_Makes_ok (rotN h 3) q hD3.w64 W hT (hD3.right (by omega) (by omega) (by omega)) (hD3.pops 0 (by decide)) (by omega))
  have HTU : Hid (∀ d s, s < 4 → mkF (rotN h 3) q (d * 4 + (s + 1) % 4) = mkF h q (d * 4 + s)) := Lib.hid fun d s hs => mkF_turn hD (by omega) hs
  obtain ⟨F1, hF1⟩ : ∃ F, mkF h q = F := ⟨_, rfl⟩
  have HF1 := Lib.hid hF1
  obtain ⟨F3, hF3⟩ : ∃ F, mkF (rotN h 3) q = F := ⟨_, rfl⟩
  rw [hF1] at HM1 HTU
  rw [hF3] at HM3 HTU
  simp only [deA, rotN, Nat.reduceAdd, Nat.reduceMod] at HM1 HM3
  obtain ⟨T1, hT1⟩ : ∃ T, tab 20 F1 = T := ⟨_, rfl⟩
  obtain ⟨T3, hT3⟩ : ∃ T, tab 20 F3 = T := ⟨_, rfl⟩
  have HZ1 : Hid (T1.size = 20 ∧ T1.all (·.oneCell') = true ∧ ∀ i, i < 20 → T1[i]? = some (.int .i64 (F1 i : Int))) := Lib.hid (by rw [← hT1]; exact ⟨tab_size _ _, tab_one _ _, fun i hi => tab_get _ _ _ hi⟩)
  have HZ3 : Hid (T3.size = 20 ∧ T3.all (·.oneCell') = true ∧ ∀ i, i < 20 → T3[i]? = some (.int .i64 (F3 i : Int))) := Lib.hid (by rw [← hT3]; exact ⟨tab_size _ _, tab_one _ _, fun i hi => tab_get _ _ _ hi⟩)
  rw [hT1] at HM1
  rw [hT3] at HM3
  clear hF1 hF3 hT1 hT3 hD3
  obtain ⟨PA, hPA⟩ : ∃ A, posA h 0 0 (.slice none 0 0) = A := ⟨_, rfl⟩
  have hPA' : posA h ((0 : Nat)) ((0 : Nat)) (.slice none 0 0) = PA := hPA
  rw [hPA] at HPZ HPC ⊢
  have HN := Lib.hid (Row.new w1 27 zeroP)
  have ha := below_setRow ((Below.refl w1.heap.size w1).alloc (Nat.le_refl _) (.cells zeroP 27)) (Nat.le_refl _) PA
  have hr : Row ((w1.alloc (.cells zeroP 27)).setRow w1.heap.size PA) w1.heap.size 27 PA := setRow_heap _ _ _ _ _ _ HN.out
  have HR := Lib.hid hr
  have HB := Lib.hid (hb1.trans (ha.mono hb1.size))
  have HT2 := Lib.hid (HT.out.below HT.out.pos HB.out)
  clear hb1 ha hr hPA hPA' hD
  go_upto_region 2 with (refine wpList_store_row rfl 27 (.tmp 5) (.tmp 20) rfl w1.heap.size PA rfl rfl 27 _ HN.out (by rw [HPZ.out.1]; exact size_pos) (by rw [HPZ.out.1]; rfl) HPZ.out.2 ?_)
  try dsimp only [Act.put]
  generalize (w1.alloc (.cells zeroP 27)).setRow w1.heap.size PA = w2 at *
  obtain ⟨b5, hb5⟩ : ∃ b, w1.heap.size = b := ⟨_, rfl⟩
  rw [hb5] at HR ⊢
  clear hb5
  have c0 := (HR.out.cell 0).trans (HPC.out 0 (by decide))
  have c1 := (HR.out.cell 1).trans (HPC.out 1 (by decide))
  have c2 := (HR.out.cell 2).trans (HPC.out 2 (by decide))
  have c3 := (HR.out.cell 3).trans (HPC.out 3 (by decide))
  go_wp2_with fail
  refine (HM1.out _ HT2.out).mono ?_
  rintro e w3 ⟨rfl, hb3⟩
  have HR3 := Lib.hid (HR.out.later hb3)
  have HB3 := Lib.hid (HB.out.trans (hb3.mono HB.out.size))
  clear hb3 c0 c1 c2 c3
  have HN3 := Lib.hid (Row.new w3 52 Z20)
  have ha := below_setRow ((Below.refl w3.heap.size w3).alloc (Nat.le_refl _) (.cells Z20 52)) (Nat.le_refl _) T1
  have hr : Row ((w3.alloc (.cells Z20 52)).setRow w3.heap.size T1) w3.heap.size 52 T1 := setRow_heap _ _ _ _ _ _ HN3.out
  have HR6 := Lib.hid hr
  have HR4 := Lib.hid (HR3.out.later ha)
  have HB4 := Lib.hid (HB3.out.trans (ha.mono HB3.out.size))
  have HT4 := Lib.hid (HT.out.below HT.out.pos HB4.out)
  clear ha hr
  go_upto_region 3 with (refine wpList_store_row rfl 52 (.tmp 6) (.tmp 25) rfl w3.heap.size T1 rfl rfl 52 _ HN3.out (by rw [HZ1.out.1]; exact size_mk) (by rw [HZ1.out.1]; rfl) HZ1.out.2.1 ?_)
  try dsimp only [Act.put]
  generalize (w3.alloc (.cells Z20 52)).setRow w3.heap.size T1 = w4 at *
  obtain ⟨b6, hb6⟩ : ∃ b, w3.heap.size = b := ⟨_, rfl⟩
  rw [hb6] at HR6 ⊢
  clear hb6
  have c0 := (HR4.out.cell 0).trans (HPC.out 0 (by decide))
  have c1 := (HR4.out.cell 1).trans (HPC.out 1 (by decide))
  have c2 := (HR4.out.cell 2).trans (HPC.out 2 (by decide))
  have c3 := (HR4.out.cell 3).trans (HPC.out 3 (by decide))
  go_wp2_with fail
  refine (HM3.out _ HT4.out).mono ?_
  rintro e w5 ⟨rfl, hb5⟩
  have HR5 := Lib.hid (HR4.out.later hb5)
  have HR65 := Lib.hid (HR6.out.later hb5)
  have HB5 := Lib.hid (HB4.out.trans (hb5.mono HB4.out.size))
  clear hb5 c0 c1 c2 c3
  have HN5 := Lib.hid (Row.new w5 52 Z20)
  have ha := below_setRow ((Below.refl w5.heap.size w5).alloc (Nat.le_refl _) (.cells Z20 52)) (Nat.le_refl _) T3
  have hr : Row ((w5.alloc (.cells Z20 52)).setRow w5.heap.size T3) w5.heap.size 52 T3 := setRow_heap _ _ _ _ _ _ HN5.out
  have HR8 := Lib.hid hr
  have HR7 := Lib.hid (HR5.out.later ha)
  have HR67 := Lib.hid (HR65.out.later ha)
  have HB7 := Lib.hid (HB5.out.trans (ha.mono HB5.out.size))
  have HT7 := Lib.hid (HT.out.below HT.out.pos HB7.out)
  clear ha hr
  go_upto_region 4 with (refine wpList_store_row rfl 52 (.tmp 8) (.tmp 42) rfl w5.heap.size T3 rfl rfl 52 _ HN5.out (by rw [HZ3.out.1]; exact size_mk) (by rw [HZ3.out.1]; rfl) HZ3.out.2.1 ?_)
  try dsimp only [Act.put]
  generalize (w5.alloc (.cells Z20 52)).setRow w5.heap.size T3 = w7 at *
  obtain ⟨b8, hb8⟩ : ∃ b, w5.heap.size = b := ⟨_, rfl⟩
  rw [hb8] at HR8 ⊢
  clear hb8
  have HBZ := Lib.hid (Below.refl w7.heap.size w7)
  have HD4 := Lib.hid hq3
  go_wp2_with fail
  go_loopg [10, 48] 5 (fun gj _ i wx => ∃ j : Nat, gj = 5 - j ∧ j ≤ 5 ∧ i = .int .i64 (j : Int) ∧ Below w7.heap.size w7 wx)
  case atStart => exact ⟨0, rfl, by omega, rfl, HBZ.out⟩
  case round =>
    obtain ⟨j, rfl, hj, rfl, hB⟩ := hrel
    have HBJ := Lib.hid hB
    clear hB
    by_cases hjl : j < 5
    · have hdj : decide ((j : Int) < 5) = true := by simp; omega
      go_wp2_with fail
      clear hdj
      go_loopg [11, 51] 4 (fun gs _ i wx => ∃ s : Nat, gs = 4 - s ∧ s ≤ 4 ∧ i = .int .i64 (s : Int) ∧ Below w7.heap.size w7 wx)
      case atStart => exact ⟨0, rfl, by omega, rfl, HBJ.out⟩
      case round =>
        obtain ⟨s, rfl, hs, rfl, hB⟩ := hrel
        have HBS := Lib.hid hB
        clear hB
        by_cases hsl : s < 4
        · have hds : decide ((s : Int) < 4) = true := by simp; omega
          obtain ⟨x, hx⟩ : ∃ x, (s + 1) % 4 = x := ⟨_, rfl⟩
          have hxi : ((s : Int) + 1) % 4 = (x : Int) := by omega
          have hx4 : x < 4 := by omega
          have hxi4 : (x : Int) < 4 := by omega
          have hji : (j : Int) < 5 := by omega
          have hsi : (s : Int) < 4 := by omega
          have HRS := Lib.hid (HR7.out.later HBS.out)
          have HTS := Lib.hid (HT7.out.below HT7.out.pos HBS.out)
          have c0 := (HRS.out.cell 0).trans (HPC.out 0 (by decide))
          have c1 := (HRS.out.cell 1).trans (HPC.out 1 (by decide))
          have c2 := (HRS.out.cell 2).trans (HPC.out 2 (by decide))
          have c3 := (HRS.out.cell 3).trans (HPC.out 3 (by decide))
          have HX := Lib.hid hx
          clear hx
          go_upto_region 13 with fail
          have ha := (Below.refl wr.heap.size wr).alloc (Nat.le_refl _) (.cells (posA h j x (.slice none 0 0)) 27)
          have HRQ := Lib.hid (Row.new wr 27 (posA h j x (.slice none 0 0)))
          have HBa := Lib.hid (HBS.out.trans (ha.mono HBS.out.size))
          have HTa := Lib.hid (HTS.out.below HTS.out.pos ha)
          have HPE : Hid (posA h j x (.slice none 0 0) = #[.int .u64 (h 0 : Int), .int .u64 (h 1 : Int), .int .u64 (h 2 : Int), .int .u64 (h 3 : Int), .int .u8 (j : Int), .int .u8 (x : Int), .slice none 0 0]) := Lib.hid rfl
          rw [← HPE.out]
          clear ha c0 c1 c2 c3
          obtain ⟨bq, hbq⟩ : ∃ b, wr.heap.size = b := ⟨_, rfl⟩
          rw [hbq] at HRQ ⊢
          clear hbq
          generalize wr.alloc (.cells (posA h j x (.slice none 0 0)) 27) = wa at *
          have HLE := Lib.hid (fun W => dm_Left_ok h j x [] none 0 HD.out.w64 (by omega) (by omega) W (byt_nil W) (HD.out.right (by have := HD4.out; omega) (by omega) (by omega)))
          have HSO := Lib.hid (fun W (hT : Tab W) => dm_Solve_ok h j x [] none 0 HD.out.w64 (by omega) (by omega) W (byt_nil W) hT q (HD.out.turn x) (by have := HD4.out; omega) (HD.out.right (by have := HD4.out; omega) (by omega) (by omega)))
          rw [HD.out.turn] at HLE
          have HVL := Lib.hid (val_le j (4 * q) q ⟨h, x, []⟩ (by simp) (HD.out.pos (by have := HD4.out; omega) (show x ≤ 3 by omega)).evn (by simp))
          have HFX : Hid (F1 (j * 4 + s) = sideV s q (val j (4 * q) ⟨h, x, []⟩)) := Lib.hid (by
            rw [← HF1.out]
            unfold mkF
            rw [show (j * 4 + s) % 4 = s by omega, show (j * 4 + s) / 4 = j by omega, HX.out])
          obtain ⟨V, hV⟩ : ∃ V, val j (4 * q - ([] : List Nat).length) ⟨h, x, []⟩ = V := ⟨_, rfl⟩
          have hV2 : val j (4 * q) ⟨h, x, []⟩ = V := hV
          rw [hV] at HSO
          rw [hV2] at HVL HFX
          have HPQ : Hid ((posA h j x (.slice none 0 0)).size = 7) := Lib.hid rfl
          obtain ⟨PQ, hPQ⟩ : ∃ A, posA h j x (.slice none 0 0) = A := ⟨_, rfl⟩
          have hPQ' : posA h j x (.slice none ([] : List Nat).length 0) = PQ := hPQ
          rw [hPQ] at HRQ HPQ HPE
          rw [hPQ'] at HLE HSO
          clear hPQ hPQ' hV hV2
          go_wp2_with (refine wpList_load_row rfl 27 (.tmp 12) rfl bq rfl 27 PQ (0, 0) _ HRQ.out Tryd.underlying27 rfl (by rw [HPQ.out]; exact size_pos) ?_)
          refine (HLE.out _).mono ?_
          rintro e w9 ⟨rfl, hb9⟩
          have HRQ9 := Lib.hid (HRQ.out.later hb9)
          have HB9 := Lib.hid (HBa.out.trans (hb9.mono HBa.out.size))
          have HT9 := Lib.hid (HTa.out.below HTa.out.pos hb9)
          clear hb9
          go_wp2_with (refine wpList_load_row rfl 27 (.tmp 12) rfl bq rfl 27 PQ (0, 0) _ HRQ9.out Tryd.underlying27 rfl (by rw [HPQ.out]; exact size_pos) ?_)
          refine (HSO.out _ HT9.out).mono ?_
          rintro e w10 ⟨rfl, hb10⟩
          have HB10 := Lib.hid (HB9.out.trans (hb10.mono HB9.out.size))
          clear hb10
          have HC6 := Lib.hid ((HR67.out.later HB10.out).cell (j * 4 + s) |>.trans (HZ1.out.2.2 _ (by omega)))
          have HC8 := Lib.hid ((HR8.out.later HB10.out).cell (j * 4 + x) |>.trans (HZ3.out.2.2 _ (by omega)))
          rw [← HX.out, HTU.out j s hsl, HX.out] at HC8
          have c6 := HC6.out
          have c8 := HC8.out
          rcases (show s % 2 = 0 ∨ s % 2 = 1 by omega) with hp | hp
          · have hpi : (s : Int) % 2 = 0 := by omega
            rw [show F1 (j * 4 + s) = V from HFX.out.trans (if_pos hp)] at c6 c8
            clear hp
            go_wp2_with fail
            go_roundg (4 - (s + 1))
            case measure => omega
            case rel => exact ⟨s + 1, rfl, by omega, by simp, HB10.out⟩
          · have hpi : (s : Int) % 2 = 1 := by omega
            have hvq := HVL.out
            rw [show F1 (j * 4 + s) = q - V from HFX.out.trans (if_neg (by omega)), show ((q - V : Nat) : Int) = (q : Int) - (V : Int) by omega] at c6 c8
            clear hp
            go_wp2_with fail
            go_roundg (4 - (s + 1))
            case measure => omega
            case rel => exact ⟨s + 1, rfl, by omega, by simp, HB10.out⟩
        · obtain rfl : s = 4 := by omega
          simp only [show ((4 : Nat) : Int) = 4 from rfl]
          go_wp2_with fail
          go_roundg (5 - (j + 1))
          case measure => omega
          case rel => exact ⟨j + 1, rfl, by omega, by simp, HBS.out⟩
    · obtain rfl : j = 5 := by omega
      simp only [show ((5 : Nat) : Int) = 5 from rfl]
      have HBk := Lib.hid (HB7.out.trans (HBJ.out.mono HB7.out.size))
      have HTk := Lib.hid (HT7.out.below HT7.out.pos HBJ.out)
      go_wp2_with fail
      refine (dm_awake _ HTk.out).mono ?_
      rintro e w6 ⟨rfl, hb6⟩
      have HB6 := Lib.hid (HBk.out.trans (hb6.mono HBk.out.size))
      clear hb6
      go_wp2_with fail
      go_ret
      exact ⟨rfl, HB6.out⟩
end Go.Proofs.YtpobcaopfeddgaaDoor
