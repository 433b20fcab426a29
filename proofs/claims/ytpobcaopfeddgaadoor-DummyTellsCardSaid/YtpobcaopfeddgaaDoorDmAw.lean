/- The example of the chapter over this seat's program: Example, awake. -/
import Derived.Test.YtpobcaopfeddgaaDoorDmPn
import Derived.Test.YtpobcaopfeddgaaDoorDmPk
import Derived.Test.YtpobcaopfeddgaaDoorDmPl
namespace Go.Proofs.YtpobcaopfeddgaaDoor
open Go.RowKit Go.Sort Go.Shelf Go.Maps Go.WideMaps

def EH : Nat → Nat
  | 0 => 2251799880794112
  | 1 => 137438953473
  | 2 => 6
  | 3 => 549890031616
  | _ => 0
theorem eh_w64 : ∀ s, W64 (EH s)
  | 0 => by unfold W64 EH; decide
  | 1 => by unfold W64 EH; decide
  | 2 => by unfold W64 EH; decide
  | 3 => by unfold W64 EH; decide
  | _ + 4 => W64.zero
theorem eh_right : rightB EH 3 3 [] = true := by decide +kernel
theorem eh_pop : pop (EH ((3 + ([] : List Nat).length) % 4)) = 2 := by decide +kernel
theorem eh_val : val 3 (4 * 2 - ([] : List Nat).length) ⟨EH, 3, []⟩ = 1 := by decide +kernel
theorem eh_chs : ((Tb.mk EH 3 []).cards.map fun c => (c, worth 3 (4 * 2 - ([] : List Nat).length - 1) ⟨EH, 3, []⟩ c)) = [(27, 1), (39, 1)] := by decide +kernel
theorem eh_27 : Tb.legal ⟨EH, 3, []⟩ 27 = true := by decide +kernel
theorem eh_26 : Tb.legal ⟨EH, 3, []⟩ 26 = false := by decide +kernel
theorem eh_put : ((Tb.mk EH 3 []).put 3 27).1.cs = [27] ∧ ((Tb.mk EH 3 []).put 3 27).2 = 0 := by decide +kernel
theorem byt_nil (w : World) : Byt w none ([] : List Nat).length [] := ⟨rfl, by simp, fun i => by simp, .inl rfl⟩
theorem dm_Example (w : World) : Calls Tryd.prog 34 #[] w fun e w' => e = .returned (.agg (posA EH 3 3 (.slice none 0 0))) ∧ Below w.heap.size w w' := by
  have HR := Lib.hid (Row.new w 27 zeroP)
  have HB := Lib.hid ((Below.refl w.heap.size w).alloc (Nat.le_refl _) (.cells zeroP 27))
  go_enter Tryd.func34, Tryd.ntmps34
  go_wp2_with (refine wpList_store_row rfl 27 (.tmp 0) (.tmp 2) rfl w.heap.size (posA EH 3 3 (.slice none 0 0)) rfl rfl 27 _ HR.out size_pos rfl (by simp [posA, Value.oneCell']) ?_)
  refine bodyPost_ret (v := .agg (posA EH 3 3 (.slice none 0 0))) (results_cell1 Tryd.results34 _ _ w.heap.size _ (posA EH 3 3 (.slice none 0 0)) (0, 0) _ rfl (setRow_heap _ _ _ _ _ _ HR.out) Tryd.underlying27 rfl size_pos) rfl ⟨rfl, below_setRow HB.out (Nat.le_refl _) _⟩
set_option maxHeartbeats 4000000 in
set_option maxRecDepth 10000 in
theorem dm_awake (w : World) (hT : Tab w) : Calls Tryd.prog 13 #[] w fun e w' => e = .returned (.bool true) ∧ Below w.heap.size w w' := by
  have HT := Lib.hid hT
  have HSO := Lib.hid (fun W (h : Tab W) => dm_Solve_ok EH 3 3 [] none 0 eh_w64 (by decide) (by decide) W (byt_nil W) h 2 eh_pop (by decide) eh_right)
  rw [eh_val] at HSO
  have HCH := Lib.hid (fun W (h : Tab W) => dm_Choices_ok EH 3 3 [] none 0 eh_w64 (by decide) (by decide) W (byt_nil W) h 2 eh_pop (by decide) eh_right)
  rw [eh_chs] at HCH
  have HLE := Lib.hid (fun W => dm_Left_ok EH 3 3 [] none 0 eh_w64 (by decide) (by decide) W (byt_nil W) eh_right)
  rw [eh_pop] at HLE
  have HP1 := Lib.hid (fun W => dm_Play_ok EH 3 3 [] none 0 27 eh_w64 (by decide) (by decide) W (byt_nil W) eh_right eh_27)
  rw [eh_put.2] at HP1
  have HPU := Lib.hid eh_put.1
  have HP2 := Lib.hid (fun W => dm_Play_none EH 3 3 [] none 0 26 eh_w64 (by decide) (by decide) (by decide) W (byt_nil W) eh_right eh_26)
  have HLI := Lib.hid (fun W (h : Tab W) => dm_Line_ok EH 3 3 [] none 0 eh_w64 (by decide) (by decide) W (byt_nil W) h 2 eh_pop (by decide) eh_right)
  have HLL := Lib.hid (lineV_len 3 (4 * 2 - ([] : List Nat).length) ⟨EH, 3, []⟩)
  have HRI := Lib.hid (fun W => dm_Right EH 3 3 [] none 0 eh_w64 (by decide) (by decide) W (byt_nil W))
  rw [eh_right] at HRI
  have HEX := Lib.hid (fun W => dm_Example W)
  obtain ⟨PA, hPA⟩ : ∃ A, posA EH 3 3 (.slice none 0 0) = A := ⟨_, rfl⟩
  have HPE : Hid (PA = #[.int .u64 (EH 0 : Int), .int .u64 (EH 1 : Int), .int .u64 (EH 2 : Int), .int .u64 (EH 3 : Int), .int .u8 ((3 : Nat) : Int), .int .u8 ((3 : Nat) : Int), .slice none 0 0]) := Lib.hid hPA.symm
  have hPA' : posA EH 3 3 (.slice none ([] : List Nat).length 0) = PA := hPA
  have HZ : Hid (PA.size = 7 ∧ PA.all (·.oneCell') = true) := Lib.hid (by rw [← hPA]; exact ⟨rfl, by simp [posA, Value.oneCell']⟩)
  obtain ⟨u, hu⟩ : ∃ u, ((Tb.mk EH 3 []).put 3 27).1 = u := ⟨_, rfl⟩
  rw [hu] at HP1 HPU
  obtain ⟨L, hL⟩ : ∃ L, lineV 3 (4 * 2 - ([] : List Nat).length) ⟨EH, 3, []⟩ = L := ⟨_, rfl⟩
  rw [hL] at HLI HLL
  rw [hPA'] at HSO HCH HLE HP1 HP2 HLI HRI
  rw [hPA] at HEX
  clear hPA hPA' hT hu hL
  go_enter Tryd.func13, Tryd.ntmps13
  go_wp2_with fail
  refine (HEX.out _).mono ?_
  rintro e w1 ⟨rfl, hb1⟩
  have HN := Lib.hid (Row.new w1 27 zeroP)
  have ha := below_setRow ((Below.refl w1.heap.size w1).alloc (Nat.le_refl _) (.cells zeroP 27)) (Nat.le_refl _) PA
  have hr : Row ((w1.alloc (.cells zeroP 27)).setRow w1.heap.size PA) w1.heap.size 27 PA := setRow_heap _ _ _ _ _ _ HN.out
  have HR := Lib.hid hr
  have HB := Lib.hid (hb1.trans (ha.mono hb1.size))
  clear hb1 ha hr
  go_upto_region 2 with (refine wpList_store_row rfl 27 (.tmp 1) (.tmp 17) rfl w1.heap.size PA rfl rfl 27 _ HN.out (by rw [HZ.out.1]; exact size_pos) (by rw [HZ.out.1]; rfl) HZ.out.2 ?_)
  generalize (w1.alloc (.cells zeroP 27)).setRow w1.heap.size PA = w2 at *
  obtain ⟨b1, hb1⟩ : ∃ b, w1.heap.size = b := ⟨_, rfl⟩
  rw [hb1] at HR ⊢
  clear hb1
  have HT2 := Lib.hid (HT.out.below HT.out.pos HB.out)
  go_wp2_with (refine wpList_load_row rfl 27 (.tmp 1) rfl b1 rfl 27 PA (0, 0) _ HR.out Tryd.underlying27 rfl (by rw [HZ.out.1]; exact size_pos) ?_)
  refine (HSO.out w2 HT2.out).mono ?_
  rintro e w3 ⟨rfl, hb⟩
  have hbw := Lib.hid hb
  have HR3 := Lib.hid (HR.out.later hbw.out)
  have HB3 := Lib.hid (HB.out.trans (hbw.out.mono HB.out.size))
  have HT3 := Lib.hid (HT2.out.below HT2.out.pos hbw.out)
  clear hb hbw
  go_wp2_with (refine wpList_load_row rfl 27 (.tmp 1) rfl b1 rfl 27 PA (0, 0) _ HR3.out Tryd.underlying27 rfl (by rw [HZ.out.1]; exact size_pos) ?_)
  refine (HCH.out w3 HT3.out).mono ?_
  rintro e w4 ⟨v4, rfl, ho4, hb⟩
  have hbw := Lib.hid hb
  have HR4 := Lib.hid (HR3.out.later hbw.out)
  have HB4 := Lib.hid (HB3.out.trans (hbw.out.mono HB3.out.size))
  have HT4 := Lib.hid (HT3.out.below HT3.out.pos hbw.out)
  have HO4 := Lib.hid ho4
  clear ho4
  clear hb hbw
  go_wp2_with (refine wpList_load_row rfl 27 (.tmp 1) rfl b1 rfl 27 PA (0, 0) _ HR4.out Tryd.underlying27 rfl (by rw [HZ.out.1]; exact size_pos) ?_)
  refine (HLE.out w4).mono ?_
  rintro e w5 ⟨rfl, hb⟩
  have hbw := Lib.hid hb
  have HR5 := Lib.hid (HR4.out.later hbw.out)
  have HB5 := Lib.hid (HB4.out.trans (hbw.out.mono HB4.out.size))
  have HT5 := Lib.hid (HT4.out.below HT4.out.pos hbw.out)
  have HO5 := Lib.hid (HO4.out.below hbw.out)
  clear hb hbw
  go_wp2_with (refine wpList_load_row rfl 27 (.tmp 1) rfl b1 rfl 27 PA (0, 0) _ HR5.out Tryd.underlying27 rfl (by rw [HZ.out.1]; exact size_pos) ?_)
  refine (HP1.out w5).mono ?_
  rintro e w6 ⟨v6, rfl, ho6, hb⟩
  have hbw := Lib.hid hb
  have HR6 := Lib.hid (HR5.out.later hbw.out)
  have HB6 := Lib.hid (HB5.out.trans (hbw.out.mono HB5.out.size))
  have HT6 := Lib.hid (HT5.out.below HT5.out.pos hbw.out)
  have HO6 := Lib.hid (HO5.out.below hbw.out)
  have ho6' := ho6
  rw [HPU.out] at ho6'
  obtain ⟨y6, hy6, -⟩ : ∃ y : Option Addr × Nat, v6 = .slice y.1 1 y.2 ∧ True := by
    obtain ⟨a, c, h, -⟩ := ho6'.slice
    exact ⟨(a, c), h, trivial⟩
  obtain ⟨a6, c6⟩ := y6
  dsimp only at hy6
  subst hy6
  clear ho6 ho6'
  clear hb hbw
  have HPB : Hid ((posA u.h 3 u.ld (.slice a6 1 c6)).size = 7 ∧ (posA u.h 3 u.ld (.slice a6 1 c6)).all (·.oneCell') = true ∧ (posA u.h 3 u.ld (.slice a6 1 c6))[6]? = some (.slice a6 1 c6)) := Lib.hid ⟨rfl, by simp [posA, Value.oneCell'], rfl⟩
  obtain ⟨PB, hPB⟩ : ∃ A, posA u.h 3 u.ld (.slice a6 1 c6) = A := ⟨_, rfl⟩
  rw [hPB] at HPB ⊢
  clear hPB
  have HN6 := Lib.hid (Row.new w6 27 zeroP)
  have ha := below_setRow ((Below.refl w6.heap.size w6).alloc (Nat.le_refl _) (.cells zeroP 27)) (Nat.le_refl _) PB
  have hr : Row ((w6.alloc (.cells zeroP 27)).setRow w6.heap.size PB) w6.heap.size 27 PB := setRow_heap _ _ _ _ _ _ HN6.out
  have HQ := Lib.hid hr
  have HRa := Lib.hid (HR6.out.later ha)
  have HBa := Lib.hid (HB6.out.trans (ha.mono HB6.out.size))
  have HTa := Lib.hid (HT6.out.below HT6.out.pos ha)
  have HOa := Lib.hid (HO6.out.below ha)
  clear ha hr
  go_upto_region 6 with (refine wpList_store_row rfl 27 (.tmp 9) (.tmp 37) rfl w6.heap.size PB rfl rfl 27 _ HN6.out (by rw [HPB.out.1]; exact size_pos) (by rw [HPB.out.1]; rfl) HPB.out.2.1 ?_)
  generalize (w6.alloc (.cells zeroP 27)).setRow w6.heap.size PB = wa at *
  obtain ⟨b9, hb9⟩ : ∃ b, w6.heap.size = b := ⟨_, rfl⟩
  rw [hb9] at HQ ⊢
  clear hb9
  go_wp2_with (refine wpList_load_row rfl 27 (.tmp 1) rfl b1 rfl 27 PA (0, 0) _ HRa.out Tryd.underlying27 rfl (by rw [HZ.out.1]; exact size_pos) ?_)
  refine (HP2.out wa).mono ?_
  rintro e w7 ⟨rfl, hb⟩
  have hbw := Lib.hid hb
  have HR7 := Lib.hid (HRa.out.later hbw.out)
  have HB7 := Lib.hid (HBa.out.trans (hbw.out.mono HBa.out.size))
  have HT7 := Lib.hid (HTa.out.below HTa.out.pos hbw.out)
  have HO7 := Lib.hid (HOa.out.below hbw.out)
  have HQ7 := Lib.hid (HQ.out.later hbw.out)
  clear hb hbw
  have ha := (Below.refl w7.heap.size w7).alloc (Nat.le_refl _) (.cells zeroP 27)
  have HRb := Lib.hid (HR7.out.later ha)
  have HBb := Lib.hid (HB7.out.trans (ha.mono HB7.out.size))
  have HTb := Lib.hid (HT7.out.below HT7.out.pos ha)
  have HOb := Lib.hid (HO7.out.below ha)
  have HQb := Lib.hid (HQ7.out.later ha)
  clear ha
  go_upto_region 7 with fail
  generalize w7.alloc (.cells zeroP 27) = wb at *
  go_wp2_with (refine wpList_load_row rfl 27 (.tmp 1) rfl b1 rfl 27 PA (0, 0) _ HRb.out Tryd.underlying27 rfl (by rw [HZ.out.1]; exact size_pos) ?_)
  refine (HLI.out wb HTb.out).mono ?_
  rintro e w8 ⟨v8, rfl, ho8, hb⟩
  have hbw := Lib.hid hb
  have HR8 := Lib.hid (HRb.out.later hbw.out)
  have HB8 := Lib.hid (HBb.out.trans (hbw.out.mono HBb.out.size))
  have HT8 := Lib.hid (HTb.out.below HTb.out.pos hbw.out)
  have HO8 := Lib.hid (HOb.out.below hbw.out)
  have HQ8 := Lib.hid (HQb.out.later hbw.out)
  obtain ⟨y8, hy8, -⟩ : ∃ y : Option Addr × Nat, v8 = .slice y.1 8 y.2 ∧ True := by
    obtain ⟨a, c, h, -⟩ := ho8.slice
    rw [HLL.out] at h
    exact ⟨(a, c), h, trivial⟩
  obtain ⟨a8, c8⟩ := y8
  dsimp only at hy8
  subst hy8
  clear ho8
  clear hb hbw
  have HRI8 := Lib.hid (HRI.out w8)
  rw [HPE.out] at HR8 HRI8
  generalize EH 0 = e0 at *
  generalize EH 1 = e1 at *
  generalize EH 2 = e2 at *
  generalize EH 3 = e3 at *
  simp only [show ((3 : Nat) : Int) = 3 from rfl] at HR8 HRI8
  have p0 := HR8.out.cell 0
  have p1 := HR8.out.cell 1
  have p2 := HR8.out.cell 2
  have p3 := HR8.out.cell 3
  have p4 := HR8.out.cell 4
  have p5 := HR8.out.cell 5
  have p6 := HR8.out.cell 6
  simp only [List.getElem?_toArray, List.getElem?_cons_zero, List.getElem?_cons_succ] at p0 p1 p2 p3 p4 p5 p6
  go_wp2_with (fail)
  refine (HRI8.out).mono ?_
  rintro e w9 ⟨rfl, hb⟩
  have hbw := Lib.hid hb
  have HR9 := Lib.hid (HR8.out.later hbw.out)
  have HB9 := Lib.hid (HB8.out.trans (hbw.out.mono HB8.out.size))
  have HT9 := Lib.hid (HT8.out.below HT8.out.pos hbw.out)
  have HO9 := Lib.hid (HO8.out.below hbw.out)
  have HQ9 := Lib.hid (HQ8.out.later hbw.out)
  clear hb hbw
  obtain ⟨-, h0⟩ | ⟨g, cap, rfl, hg1, hg2, hg3, -⟩ := HO9.out.form
  · exact absurd h0 (by simp)
  have q0 : w9.cell? ⟨g, 0, none⟩ = some (.int .u8 27) := HO9.out.cell 0 0 (by decide) rfl
  have q1 : w9.cell? ⟨g, 1, none⟩ = some (.int .i64 1) := HO9.out.cell 0 1 (by decide) rfl
  have q2 : w9.cell? ⟨g, 2, none⟩ = some (.int .u8 39) := HO9.out.cell 1 0 (by decide) rfl
  have q3 : w9.cell? ⟨g, 3, none⟩ = some (.int .i64 1) := HO9.out.cell 1 1 (by decide) rfl
  have q6 := (HQ9.out.cell 6).trans HPB.out.2.2
  clear hg1 hg2 hg3
  go_wp2_with fail
  go_ret
  exact ⟨rfl, HB9.out⟩
end Go.Proofs.YtpobcaopfeddgaaDoor
