/- DummySuits over this seat's program. -/
import Derived.Test.YtpobcaopfeddgaaDoorDmRc
import Derived.Test.YtpobcaopfeddgaaDoorMDqa
import Derived.Test.YtpobcaopfeddgaaDoorDmAw
import Derived.Deep.CutRange
namespace Go.Proofs.YtpobcaopfeddgaaDoor
open Go.RowKit Go.Sort Go.Shelf Go.Maps Go.WideMaps

theorem posA_imS {σ : Nat → Nat} {h : Nat → Nat} {i c : Nat} (hi : i < 4) (hb : (h i).testBit c = true) (tr ld : Nat) (v : Value) : (posA (imS σ h i c) tr ld v).setIfInBounds i (.int .u64 ((lor (imS σ h i c i) (shl1 (σ c)) : Nat) : Int)) = posA (imS σ h i (c + 1)) tr ld v := by
  unfold posA
  rw [imS_take hb, imS_take hb, imS_take hb, imS_take hb]
  rcases (show i = 0 ∨ i = 1 ∨ i = 2 ∨ i = 3 by omega) with rfl | rfl | rfl | rfl <;> simp
def allH (h : Nat → Nat) : Nat := lor (lor (lor (h 0) (h 1)) (h 2)) (h 3)
theorem allH_bit {h : Nat → Nat} {s c : Nat} (hs : s < 4) (hc : (h s).testBit c = true) : (allH h).testBit c = true := by
  unfold allH
  rw [testBit_lor, testBit_lor, testBit_lor]
  rcases (show s = 0 ∨ s = 1 ∨ s = 2 ∨ s = 3 by omega) with rfl | rfl | rfl | rfl <;> simp [hc]
/-- the two positions under way: i hands are done, of the next one c1 and c2 cards -/
structure SI (h σ1 σ2 : Nat → Nat) (t1 t2 ld B : Nat) (w0 : World) (b13 b14 i c1 c2 : Nat) (W : World) : Prop where
  r13 : Row W b13 27 (posA (imS σ1 h i c1) t1 ld (.slice none 0 0))
  r14 : Row W b14 27 (posA (imS σ2 h i c2) t2 ld (.slice none 0 0))
  bl : Below B w0 W
theorem SI.put13 {h σ1 σ2 : Nat → Nat} {t1 t2 ld B b13 b14 i c1 c2 : Nat} {w0 W : World} (H : SI h σ1 σ2 t1 t2 ld B w0 b13 b14 i c1 c2 W) (hi : i < 4) (hb : (h i).testBit c1 = true) (hne : b13 ≠ b14) (hB : B ≤ b13) :
    SI h σ1 σ2 t1 t2 ld B w0 b13 b14 i (c1 + 1) c2 (W.setCell ⟨b13, i, none⟩ (.int .u64 ((lor (imS σ1 h i c1 i) (shl1 (σ1 c1)) : Nat) : Int))) :=
  ⟨by rw [← posA_imS hi hb]; exact H.r13.set i _, But.row H.r14 (But.setCell (B := b14 + 1) _ _ _) (Nat.lt_succ_self _) hne.symm, But.below H.bl (But.setCell (B := B) _ _ _) (Nat.le_refl _) hB⟩
theorem SI.put14 {h σ1 σ2 : Nat → Nat} {t1 t2 ld B b13 b14 i c1 c2 : Nat} {w0 W : World} (H : SI h σ1 σ2 t1 t2 ld B w0 b13 b14 i c1 c2 W) (hi : i < 4) (hb : (h i).testBit c2 = true) (hne : b13 ≠ b14) (hB : B ≤ b14) :
    SI h σ1 σ2 t1 t2 ld B w0 b13 b14 i c1 (c2 + 1) (W.setCell ⟨b14, i, none⟩ (.int .u64 ((lor (imS σ2 h i c2 i) (shl1 (σ2 c2)) : Nat) : Int))) :=
  ⟨But.row H.r13 (But.setCell (B := b13 + 1) _ _ _) (Nat.lt_succ_self _) hne, by rw [← posA_imS hi hb]; exact H.r14.set i _, But.below H.bl (But.setCell (B := B) _ _ _) (Nat.le_refl _) hB⟩
theorem SI.drew {h σ1 σ2 : Nat → Nat} {t1 t2 ld B b13 b14 i c1 c2 : Nat} {w0 W : World} (H : SI h σ1 σ2 t1 t2 ld B w0 b13 b14 i c1 c2 W) : SI h σ1 σ2 t1 t2 ld B w0 b13 b14 i c1 c2 W.drew :=
  ⟨H.r13.later (Below.refl _ _).drew, H.r14.later (Below.refl _ _).drew, H.bl.drew⟩
theorem SI.skip {h σ1 σ2 : Nat → Nat} {t1 t2 ld B b13 b14 i c : Nat} {w0 W : World} (H : SI h σ1 σ2 t1 t2 ld B w0 b13 b14 i c c W) (hb : (h i).testBit c = false) : SI h σ1 σ2 t1 t2 ld B w0 b13 b14 i (c + 1) (c + 1) W :=
  ⟨by rw [imS_skip hb]; exact H.r13, by rw [imS_skip hb]; exact H.r14, H.bl⟩
theorem SI.next {h σ1 σ2 : Nat → Nat} {t1 t2 ld B b13 b14 i : Nat} {w0 W : World} (H : SI h σ1 σ2 t1 t2 ld B w0 b13 b14 i 52 52 W) : SI h σ1 σ2 t1 t2 ld B w0 b13 b14 (i + 1) 0 0 W :=
  ⟨by rw [← imS_next]; exact H.r13, by rw [← imS_next]; exact H.r14, H.bl⟩
set_option maxHeartbeats 4000000 in
set_option maxRecDepth 10000 in
theorem law_DummySuits (a : Option Addr) (len cap : Nat) (zs : List Nat) (n tr ld by' : Nat) (w : World) (hz : Byt w a len zs) (hn : n < 256) (htr : tr < 256) (hld : ld < 256) (hby : by' < 256) (hT : Tab w) :
    Calls Tryd.prog 6 #[.slice a len cap, .int .u8 (n : Int), .int .u8 (tr : Int), .int .u8 (ld : Int), .int .u8 (by' : Int)] w fun e w' => e = .returned (.bool true) ∧ Below w.heap.size w w' := by
  have HT := Lib.hid hT
  have HDE := Lib.hid (dm_Dealt a len cap zs n tr ld 4 hn htr hld (Nat.le_refl _) w hz)
  have hq4 : n % (4 + 1) ≤ 4 := by omega
  have ht5 : tr % 5 < 5 := by omega
  have hl4 : ld % 4 < 4 := by omega
  obtain ⟨q, hq⟩ : ∃ q, n % (4 + 1) = q := ⟨_, rfl⟩
  obtain ⟨t5, htt⟩ : ∃ q, tr % 5 = q := ⟨_, rfl⟩
  obtain ⟨l4, hll⟩ : ∃ q, ld % 4 = q := ⟨_, rfl⟩
  obtain ⟨b4, hbb⟩ : ∃ q, by' % 4 = q := ⟨_, rfl⟩
  have hb44 : b4 < 4 := by omega
  have hbm : (by' : Int) % 4 = (b4 : Int) := by omega
  rw [hq, htt, hll] at HDE
  rw [hq] at hq4
  rw [htt] at ht5
  rw [hll] at hl4
  simp only [show ((4 : Nat) : Int) = 4 from rfl] at HDE
  clear hq htt hll hz hT hbb
  go_enter Tryd.func6, Tryd.ntmps6
  go_wp2_with fail
  refine HDE.out.mono ?_
  rintro e w1 ⟨h, hD, rfl, hb1⟩
  have HD := Lib.hid hD
  have HPZ : Hid ((posA h t5 l4 (.slice none 0 0)).size = 7 ∧ (posA h t5 l4 (.slice none 0 0)).all (·.oneCell') = true) := Lib.hid ⟨rfl, by simp [posA, Value.oneCell']⟩
  have HPC : Hid (∀ s, s < 4 → (posA h t5 l4 (.slice none 0 0))[s]? = some (.int .u64 (h s : Int))) := Lib.hid fun s hs => posA_h _ _ _ _ hs
  have HP45 : Hid ((posA h t5 l4 (.slice none 0 0))[4]? = some (.int .u8 (t5 : Int)) ∧ (posA h t5 l4 (.slice none 0 0))[5]? = some (.int .u8 (l4 : Int))) := Lib.hid ⟨rfl, rfl⟩
  have HSO := Lib.hid (fun W (hT : Tab W) => dm_Solve_ok h t5 l4 [] none 0 hD.w64 (by omega) (by omega) W (byt_nil W) hT q (hD.turn l4) hq4 (hD.right (by omega) (by omega) (by omega)))
  obtain ⟨V, hV⟩ : ∃ V, val t5 (4 * q - ([] : List Nat).length) ⟨h, l4, []⟩ = V := ⟨_, rfl⟩
  have HV := Lib.hid hV
  rw [hV] at HSO
  have HQ4 := Lib.hid hq4
  have HTL := Lib.hid (And.intro ht5 hl4)
  obtain ⟨PA, hPA⟩ : ∃ A, posA h t5 l4 (.slice none 0 0) = A := ⟨_, rfl⟩
  have hPA' : posA h t5 l4 (.slice none ([] : List Nat).length 0) = PA := hPA
  rw [hPA] at HPZ HPC HP45 ⊢
  rw [hPA'] at HSO
  have HN := Lib.hid (Row.new w1 27 zeroP)
  have ha := below_setRow ((Below.refl w1.heap.size w1).alloc (Nat.le_refl _) (.cells zeroP 27)) (Nat.le_refl _) PA
  have hr : Row ((w1.alloc (.cells zeroP 27)).setRow w1.heap.size PA) w1.heap.size 27 PA := setRow_heap _ _ _ _ _ _ HN.out
  have HR := Lib.hid hr
  have HB := Lib.hid (hb1.trans (ha.mono hb1.size))
  have HT2 := Lib.hid (HT.out.below HT.out.pos HB.out)
  clear hb1 ha hr hPA hPA' hD hV
  go_upto_region 2 with (refine wpList_store_row rfl 27 (.tmp 11) (.tmp 31) rfl w1.heap.size PA rfl rfl 27 _ HN.out (by rw [HPZ.out.1]; exact size_pos) (by rw [HPZ.out.1]; rfl) HPZ.out.2 ?_)
  try dsimp only [Act.put]
  generalize (w1.alloc (.cells zeroP 27)).setRow w1.heap.size PA = w2 at *
  obtain ⟨b11, hb11⟩ : ∃ b, w1.heap.size = b := ⟨_, rfl⟩
  rw [hb11] at HR ⊢
  clear hb11
  have c0 := (HR.out.cell 0).trans (HPC.out 0 (by decide))
  have c1 := (HR.out.cell 1).trans (HPC.out 1 (by decide))
  have c2 := (HR.out.cell 2).trans (HPC.out 2 (by decide))
  have c3 := (HR.out.cell 3).trans (HPC.out 3 (by decide))
  have c4 := (HR.out.cell 4).trans HP45.out.1
  have c5 := (HR.out.cell 5).trans HP45.out.2
  have k0 := HD.out.w64 0
  have k1 := HD.out.w64 1
  have k2 := HD.out.w64 2
  have k3 := HD.out.w64 3
  have o1 := run_or64 (h 0) (h 1) k0 k1
  have o2 := run_or64 (lor (h 0) (h 1)) (h 2) (k0.lor k1) k2
  have o3 := run_or64 (lor (lor (h 0) (h 1)) (h 2)) (h 3) ((k0.lor k1).lor k2) k3
  go_upto_region 4 with fail
  clear k0 k1 k2 k3 o1 o2 o3 c0 c1 c2 c3
  have hlt := HR.out.lt
  obtain ⟨σ2, hσ2⟩ : ∃ f, low (lor (lor (lor (h 0) (h 1)) (h 2)) (h 3)) = f := ⟨_, rfl⟩
  have HS2 := Lib.hid hσ2
  obtain ⟨σ1, hσ1⟩ : ∃ f, trn b4 = f := ⟨_, rfl⟩
  have HS1 := Lib.hid hσ1
  clear hσ1 hσ2
  have HZ : Hid (∀ (σ : Nat → Nat) (t : Nat), posA (imS σ h 0 0) t l4 (.slice none 0 0) = #[.int .u64 0, .int .u64 0, .int .u64 0, .int .u64 0, .int .u8 (t : Int), .int .u8 (l4 : Int), .slice none 0 0]) := Lib.hid fun σ t => by
    have h0 : ∀ j, imS σ h 0 0 j = 0 := fun j => by
      unfold imS
      rw [if_neg (by omega)]
      split <;> rfl
    unfold posA; rw [h0, h0, h0, h0]; rfl
  go_cut [13, 14] from 47 to 56 (fun p13 p14 wx => ∃ b13 b14, p13 = .pointer (some ⟨b13, 0, none⟩) ∧ p14 = .pointer (some ⟨b14, 0, none⟩) ∧ Row wx b13 27 (posA (imS σ1 h 0 0) t5 l4 (.slice none 0 0)) ∧ Row wx b14 27 (posA (imS σ2 h 0 0) t5 l4 (.slice none 0 0)) ∧ b13 ≠ b14 ∧ w2.heap.size ≤ b13 ∧ w2.heap.size ≤ b14 ∧ Below w2.heap.size w2 wx)
  case first =>
    go_big_region
    all_goals go_wp2_with fail
    all_goals go_meet
    · refine ⟨w2.heap.size, w2.heap.size + 1, rfl, rfl, ?_, ?_, by omega, by omega, by omega, ?_⟩
      · rw [HZ.out]; exact ((Row.new w2 _ _).alloc _).later (Below.refl _ _).drew
      · rw [HZ.out]; exact (Row.new1 w2 _ _ _).later (Below.refl _ _).drew
      · exact (((Below.refl _ _).alloc (Nat.le_refl _) _).alloc (by simp) _).drew
    · refine ⟨w2.heap.size + 1, w2.heap.size, rfl, rfl, ?_, ?_, by omega, by omega, by omega, ?_⟩
      · rw [HZ.out]; exact (Row.new1 w2 _ _ _).later (Below.refl _ _).drew
      · rw [HZ.out]; exact ((Row.new w2 _ _).alloc _).later (Below.refl _ _).drew
      · exact (((Below.refl _ _).alloc (Nat.le_refl _) _).alloc (by simp) _).drew
  obtain ⟨b13, b14, rfl, rfl, hr1, hr2, hne, hl1, hl2, hbc⟩ := hcut
  have HRc := Lib.hid (HR.out.later hbc)
  have HBc := Lib.hid hbc
  have HR2c := Lib.hid hr2
  have HNE := Lib.hid hne
  have HL13 := Lib.hid hl1
  have HL14 := Lib.hid hl2
  have HL11 := Lib.hid hlt
  have c4 := (HRc.out.cell 4).trans HP45.out.1
  have c5 := (HRc.out.cell 5).trans HP45.out.2
  have d4 : wc.cell? ⟨b13, 4, none⟩ = some (.int .u8 (t5 : Int)) := hr1.cell 4
  have f4 := hr1.frozen 4
  have HR1c := Lib.hid hr1
  clear hbc hr1 hr2 hne hl1 hl2 hlt
  go_upto_if 59 with fail
  go_cut [] from 57 to 66 (fun wx => SI h σ1 σ2 (trnT b4 t5) t5 l4 w2.heap.size w2 b13 b14 0 0 0 wx)
  case first =>
    by_cases ht4 : t5 < 4
    · have hd : decide ((t5 : Int) < 4) = true := by simp; omega
      obtain ⟨tt, htt⟩ : ∃ x, (t5 + b4) % 4 = x := ⟨_, rfl⟩
      have hm4 : ((t5 : Int) + (b4 : Int)) % 4 = (tt : Int) := by omega
      have HTT : Hid (trnT b4 t5 = tt) := Lib.hid (by unfold trnT; rw [if_pos ht4, htt])
      clear htt
      have ht4' : (t5 : Int) < 4 := by omega
      go_wp2_with fail
      go_meet
      case rel =>
        refine ⟨?_, But.row HR2c.out (But.setCell (B := b14 + 1) _ _ _) (Nat.lt_succ_self _) HNE.out.symm, But.below HBc.out (But.setCell (B := w2.heap.size) _ _ _) (Nat.le_refl _) HL13.out⟩
        have := HR1c.out.set 4 (.int .u8 (tt : Int))
        rw [HTT.out, HZ.out]
        rw [HZ.out] at this
        exact this
    · have hd : decide ((t5 : Int) < 4) = false := by simp; omega
      have HTT : Hid (trnT b4 t5 = t5) := Lib.hid (by unfold trnT; rw [if_neg ht4])
      have ht4' : ¬ (t5 : Int) < 4 := by omega
      go_wp2_with fail
      go_meet
      case rel => rw [HTT.out]; exact ⟨HR1c.out, HR2c.out, HBc.out⟩
  have HSI := Lib.hid hcut
  clear c4 c5 d4 f4
  have hRc := HR.out.later hcut.bl
  clear hcut
  have c0 := (hRc.cell 0).trans (HPC.out 0 (by decide))
  have c1 := (hRc.cell 1).trans (HPC.out 1 (by decide))
  have c2 := (hRc.cell 2).trans (HPC.out 2 (by decide))
  have c3 := (hRc.cell 3).trans (HPC.out 3 (by decide))
  clear hRc
  obtain ⟨AL, hAL⟩ : ∃ x, lor (lor (lor (h 0) (h 1)) (h 2)) (h 3) = x := ⟨_, rfl⟩
  have HALB : Hid (∀ s c, s < 4 → (h s).testBit c = true → AL.testBit c = true) := Lib.hid fun s c hs hc => by rw [← hAL]; exact allH_bit hs hc
  have HALW : Hid (W64 AL) := Lib.hid (by rw [← hAL]; exact (((HD.out.w64 0).lor (HD.out.w64 1)).lor (HD.out.w64 2)).lor (HD.out.w64 3))
  rw [hAL] at HS2 ⊢
  clear hAL
  go_wp2_with fail
  clear c0 c1 c2 c3
  go_loopg [15, 16, 69] 4 (fun gj _ _ i wr => ∃ j : Nat, gj = 4 - j ∧ j ≤ 4 ∧ i = .int .i64 (j : Int) ∧ SI h σ1 σ2 (trnT b4 t5) t5 l4 w2.heap.size w2 b13 b14 j 0 0 wr)
  case atStart => exact ⟨0, rfl, by omega, rfl, HSI.out⟩
  case round =>
    obtain ⟨j, rfl, hj, rfl, hsi⟩ := hrel
    have HSJ := Lib.hid hsi
    clear hsi
    by_cases hjl : j < 4
    · have hdj : decide ((j : Int) < 4) = true := by simp; omega
      have hidx := deA_ix h hjl
      go_wp2_with fail
      clear hidx hdj
      have hWj := HD.out.w64 j
      go_loopg [17, 73] 52 (fun gc _ i wr => ∃ c : Nat, gc = 52 - c ∧ c ≤ 52 ∧ i = .int .i64 (c : Int) ∧ SI h σ1 σ2 (trnT b4 t5) t5 l4 w2.heap.size w2 b13 b14 j c c wr)
      case atStart => exact ⟨0, rfl, by omega, rfl, HSJ.out⟩
      case round =>
        obtain ⟨c, rfl, hc, rfl, hsi⟩ := hrel
        have HSC := Lib.hid hsi
        clear hsi
        by_cases hcl : c < 52
        · have hdc : decide ((c : Int) < 52) = true := by simp; omega
          have hsr := run_shr64 (h j) c .i64 hWj
          have hba := run_bit64 (h j) c hWj
          cases hbt : (h j).testBit c
          · have HBT := Lib.hid hbt
            go_wp2_with fail
            go_roundg (52 - (c + 1))
            case measure => omega
            case rel => exact ⟨c + 1, rfl, by omega, by simp, HSC.out.skip HBT.out⟩
          · have HBT := Lib.hid hbt
            have HAB := Lib.hid (HALB.out j c hjl hbt)
            obtain ⟨s0, hs0⟩ : ∃ x, c / 13 = x := ⟨_, rfl⟩
            obtain ⟨r0, hr0⟩ : ∃ x, c % 13 = x := ⟨_, rfl⟩
            have hcq : c = 13 * s0 + r0 := by omega
            have hr13 : r0 < 13 := by omega
            have hs4 : s0 < 4 := by omega
            have hsi0 : (c : Int) / 13 = (s0 : Int) := by omega
            have hri0 : (c : Int) % 13 = (r0 : Int) := by omega
            obtain ⟨s1, hs1⟩ : ∃ x, (s0 + b4) % 4 = x := ⟨_, rfl⟩
            have hsi1 : ((s0 : Int) + (b4 : Int)) % 4 = (s1 : Int) := by omega
            have hs14 : s1 < 4 := by omega
            obtain ⟨x1, hx1⟩ : ∃ x, 13 * s1 + r0 = x := ⟨_, rfl⟩
            have hxi1 : 13 * (s1 : Int) + (r0 : Int) = (x1 : Int) := by omega
            have HX1 : Hid (σ1 c = x1) := Lib.hid (by rw [← HS1.out]; unfold trn; rw [hs0, hr0, hs1, hx1])
            have hx52 : x1 < 52 := by omega
            have HPUT := Lib.hid (HSC.out.put13 hjl hbt HNE.out HL13.out)
            rw [HX1.out] at HPUT
            have dr : _ = some (Value.int .u64 ((imS σ1 h j c j : Nat) : Int)) := (HSC.out.r13.cell j).trans (posA_h _ _ _ _ hjl)
            have fr := HSC.out.r13.frozen j
            have hdw := imS_w64 σ1 h j c j
            obtain ⟨m1, hm1⟩ : ∃ x, imS σ1 h j c j = x := ⟨_, rfl⟩
            rw [hm1] at dr hdw HPUT
            have hsl := run_shl64 x1 .i64
            have hor := run_or64 m1 (shl1 x1) hdw (W64.shl1 x1)
            have hji : (j : Int) < 4 := by omega
            have HQ0 := Lib.hid (And.intro hcq (And.intro hr13 (And.intro hs0 hr0)))
            clear hm1 hx1 hs1 hs0 hr0 hcq
            go_upto_region 14 with fail
            go_big_region
            have HP1 := Lib.hid HPUT.out.drew
            generalize (wr.setCell ⟨b13, j, none⟩ (.int .u64 ((lor m1 (shl1 x1) : Nat) : Int))).drew = w6 at *
            obtain ⟨kb, hkb⟩ : ∃ x, 13 * s0 = x := ⟨_, rfl⟩
            have hkbi : (s0 : Int) * 13 = (kb : Int) := by omega
            have HKB := Lib.hid hkb
            clear dr fr hdw hsl hor hsi1 hxi1 hx52 hs14 hsr hba hbt hdc hri0 hkb
            go_wp2_with fail
            have hWA := HALW.out
            go_loopg [19, 20] r0 (fun gm lo i wr => ∃ m k l : Nat, gm = r0 - m ∧ m ≤ r0 ∧ k = kb + m ∧ l = rkTo AL c m ∧ l ≤ 13 ∧ lo = .int .i64 (l : Int) ∧ i = .int .i64 (k : Int) ∧ wr = w6)
            case atStart => exact ⟨0, kb, 0, by omega, by omega, rfl, rfl, by omega, rfl, rfl, rfl⟩
            case round =>
              obtain ⟨m, k, l, rfl, hm, hk, hl, hl13, rfl, rfl, rfl⟩ := hrel
              have HKM := Lib.hid (And.intro hk hl)
              have hkl : k < 52 := by have := HKB.out; have := HQ0.out.1; omega
              by_cases hmr : m < r0
              · have hdk : decide (k < c) = true := by have := HKB.out; have := HQ0.out.1; simp; omega
                have hsr := run_shr64 AL k .i64 hWA
                have hba := run_bit64 AL k hWA
                have HRK := Lib.hid (rkTo_succ AL c m)
                have hbv : bitAt AL k = (AL.testBit (13 * (c / 13) + m)).toNat := by
                  rw [bitAt_eq, HQ0.out.2.2.1]; congr 2; have := HKB.out; omega
                rw [← hbv] at HRK
                have hb1 : bitAt AL k = 0 ∨ bitAt AL k = 1 := by rw [bitAt_eq]; cases AL.testBit k; exact .inl rfl; exact .inr rfl
                clear hbv hk hl
                rcases hb1 with hb1 | hb1
                all_goals
                  rw [hb1] at HRK
                  go_wp2_with fail
                  go_roundg (r0 - (m + 1))
                  case measure => omega
                  case rel => exact ⟨m + 1, k + 1, rkTo AL c (m + 1), rfl, by omega, by have := HKM.out; omega, rfl, by have := rkTo_le AL c (m + 1); omega, by rw [HRK.out, ← HKM.out.2]; simp, by simp, rfl⟩
              · obtain rfl : m = r0 := by omega
                have hdk : decide (k < c) = false := by have := HKB.out; have := HQ0.out.1; simp; omega
                have hl13' : l ≤ m := by rw [hl]; exact rkTo_le _ _ _
                obtain ⟨y1, hy1⟩ : ∃ x, kb + l = x := ⟨_, rfl⟩
                have hyi : (kb : Int) + (l : Int) = (y1 : Int) := by omega
                have HY1 : Hid (σ2 c = y1) := Lib.hid (by rw [← HS2.out, low_eq, HQ0.out.2.2.1, HQ0.out.2.2.2, ← hl, ← hy1, HKB.out])
                have hy52 : y1 < 52 := by have := HKB.out; have := HQ0.out; omega
                have HPUT2 := Lib.hid (HP1.out.put14 hjl HBT.out HNE.out HL14.out)
                rw [HY1.out] at HPUT2
                have dr : _ = some (Value.int .u64 ((imS σ2 h j c j : Nat) : Int)) := (HP1.out.r14.cell j).trans (posA_h _ _ _ _ hjl)
                have fr := HP1.out.r14.frozen j
                have hdw := imS_w64 σ2 h j c j
                obtain ⟨m2, hm2⟩ : ∃ x, imS σ2 h j c j = x := ⟨_, rfl⟩
                rw [hm2] at dr hdw HPUT2
                have hsl := run_shl64 y1 .i64
                have hor := run_or64 m2 (shl1 y1) hdw (W64.shl1 y1)
                clear hm2 hy1 hl hk
                go_upto_region 20 with fail
                go_big_region
                have HP2 := Lib.hid HPUT2.out.drew
                generalize (World.setCell _ ⟨b14, j, none⟩ (.int .u64 ((lor m2 (shl1 y1) : Nat) : Int))).drew = w7 at *
                clear dr fr hdw hsl hor
                go_wp2_with fail
                go_roundg (52 - (c + 1))
                case measure => omega
                case rel => exact ⟨c + 1, rfl, by omega, by simp, HP2.out⟩
        · obtain rfl : c = 52 := by omega
          have hdc : decide ((52 : Int) < 52) = false := by decide
          simp only [show ((52 : Nat) : Int) = 52 from rfl]
          go_wp2_with fail
          go_roundg (4 - (j + 1))
          case measure => omega
          case rel => exact ⟨j + 1, rfl, by omega, by simp, HSC.out.next⟩
    · obtain rfl : j = 4 := by omega
      simp only [show ((4 : Nat) : Int) = 4 from rfl]
      have hq6 : q ≤ 6 := by have := HQ4.out; omega
      have hi52 : ∀ s, s < 4 → ∀ c, (h s).testBit c = true → c < 52 := HD.out.in52
      have hD1 := imS_dealt (σ := σ1) HD.out (fun c _ => by rw [← HS1.out]; exact trn_lt _ _) (fun s s' c c' hs hs' h1 h2 e => by rw [← HS1.out] at e; exact trn_inj (hi52 s hs c h1) (hi52 s' hs' c' h2) e)
      have hD2 := imS_dealt (σ := σ2) HD.out (fun c hc => by rw [← HS2.out]; exact low_52 _ hc) (fun s s' c c' hs hs' h1 h2 e => by rw [← HS2.out] at e; exact low_inj (HALB.out s c hs h1) (HALB.out s' c' hs' h2) e)
      have htr4 : trnT b4 t5 ≤ 4 := by unfold trnT; have := HTL.out.1; split <;> omega
      have HSO1 := Lib.hid (fun W (hT : Tab W) => dm_Solve_ok (imS σ1 h 4 0) (trnT b4 t5) l4 [] none 0 hD1.1.w64 (by omega) (by have := HTL.out.2; omega) W (byt_nil W) hT q (hD1.1.turn l4) HQ4.out (hD1.1.right hq6 htr4 (by have := HTL.out.2; omega)))
      have HSO2 := Lib.hid (fun W (hT : Tab W) => dm_Solve_ok (imS σ2 h 4 0) t5 l4 [] none 0 hD2.1.w64 (by have := HTL.out.1; omega) (by have := HTL.out.2; omega) W (byt_nil W) hT q (hD2.1.turn l4) HQ4.out (hD2.1.right hq6 (by have := HTL.out.1; omega) (by have := HTL.out.2; omega)))
      have e1 : val (trnT b4 t5) (4 * q - ([] : List Nat).length) ⟨imS σ1 h 4 0, l4, []⟩ = V := by
        rw [← HV.out]
        refine iso_val _ (iso_trn (b := b4) (by have := HTL.out.1; omega) HD.out.in52 fun s hs c' => ?_) ⟨HD.out.in52, by simp⟩ ⟨hD1.1.in52, by simp⟩
        rw [HS1.out]; exact hD1.2 s hs c'
      have e2 : val t5 (4 * q - ([] : List Nat).length) ⟨imS σ2 h 4 0, l4, []⟩ = V := by
        rw [← HV.out]
        refine iso_val _ (iso_low (all := AL) (fun s hs c => HALB.out s c hs) fun s hs c' => ?_) ⟨HD.out.in52, by simp⟩ ⟨hD2.1.in52, by simp⟩
        rw [HS2.out]; exact hD2.2 s hs c'
      rw [e1] at HSO1
      rw [e2] at HSO2
      have HR11 := Lib.hid (HR.out.later HSJ.out.bl)
      have HR13 := Lib.hid HSJ.out.r13
      have HR14 := Lib.hid HSJ.out.r14
      have HBw := Lib.hid (HB.out.trans (HSJ.out.bl.mono HB.out.size))
      have HTw := Lib.hid (HT.out.below HT.out.pos HBw.out)
      obtain ⟨P1, hP1⟩ : ∃ A, posA (imS σ1 h 4 0) (trnT b4 t5) l4 (.slice none 0 0) = A := ⟨_, rfl⟩
      have hP1' : posA (imS σ1 h 4 0) (trnT b4 t5) l4 (.slice none ([] : List Nat).length 0) = P1 := hP1
      have HZ1 : Hid (P1.size = 7) := Lib.hid (by rw [← hP1]; rfl)
      rw [hP1] at HR13
      rw [hP1'] at HSO1
      obtain ⟨P2, hP2⟩ : ∃ A, posA (imS σ2 h 4 0) t5 l4 (.slice none 0 0) = A := ⟨_, rfl⟩
      have hP2' : posA (imS σ2 h 4 0) t5 l4 (.slice none ([] : List Nat).length 0) = P2 := hP2
      have HZ2 : Hid (P2.size = 7) := Lib.hid (by rw [← hP2]; rfl)
      rw [hP2] at HR14
      rw [hP2'] at HSO2
      clear hD1 hD2 e1 e2 hP1 hP1' hP2 hP2' hi52 hq6 htr4 hjl hj
      go_wp2_with (refine wpList_load_row rfl 27 (.tmp 11) rfl b11 rfl 27 PA (0, 0) _ HR11.out Tryd.underlying27 rfl (by rw [HPZ.out.1]; exact size_pos) ?_)
      refine (HSO.out _ HTw.out).mono ?_
      rintro e w7 ⟨rfl, hb7⟩
      have HB7 := Lib.hid (HBw.out.trans (hb7.mono HBw.out.size))
      have HT7 := Lib.hid (HTw.out.below HTw.out.pos hb7)
      have HR137 := Lib.hid (HR13.out.later hb7)
      have HR147 := Lib.hid (HR14.out.later hb7)
      clear hb7
      go_wp2_with (refine wpList_load_row rfl 27 (.tmp 13) rfl b13 rfl 27 P1 (0, 0) _ HR137.out Tryd.underlying27 rfl (by rw [HZ1.out]; exact size_pos) ?_)
      refine (HSO1.out _ HT7.out).mono ?_
      rintro e w8 ⟨rfl, hb8⟩
      have HB8 := Lib.hid (HB7.out.trans (hb8.mono HB7.out.size))
      have HT8 := Lib.hid (HT7.out.below HT7.out.pos hb8)
      have HR148 := Lib.hid (HR147.out.later hb8)
      clear hb8
      go_wp2_with (refine wpList_load_row rfl 27 (.tmp 14) rfl b14 rfl 27 P2 (0, 0) _ HR148.out Tryd.underlying27 rfl (by rw [HZ2.out]; exact size_pos) ?_)
      refine (HSO2.out _ HT8.out).mono ?_
      rintro e w9 ⟨rfl, hb9⟩
      have HB9 := Lib.hid (HB8.out.trans (hb9.mono HB8.out.size))
      have HT9 := Lib.hid (HT8.out.below HT8.out.pos hb9)
      clear hb9
      go_wp2_with fail
      refine (dm_awake _ HT9.out).mono ?_
      rintro e w10 ⟨rfl, hb10⟩
      have HB10 := Lib.hid (HB9.out.trans (hb10.mono HB9.out.size))
      clear hb10
      go_wp2_with fail
      go_ret
      exact ⟨rfl, HB10.out⟩
end Go.Proofs.YtpobcaopfeddgaaDoor
