/- The walk of finesselaw13.tells: every record has the document's answers, over this seat's program. -/
import Derived.Test.YtdlnilebnobllaaMAp
import Derived.Test.YtdlnilebnobllaaRvAw
import Derived.Test.YtdlnilebnobllaaRvMt
import Derived.Test.YtdlnilebnobllaaMRfj
import Derived.Laws.StructEq
namespace Go.Proofs.Ytdlnilebnobllaa
open Go.RowKit Go.Shelf Go.Sort

noncomputable def Rc.winV (r : Rc) : List Nat := if r.rightV.2 = 0 then winsTo r.rnds else []
noncomputable def Rc.findV (r : Rc) : List Rvk := if r.rightV.2 = 0 then findAll r.rnds else []
section
variable (r : Rc) (a : Option Addr) (len cap : Nat) (w : World)
theorem rev_winnersV (hok : r.ok len cap) (hz : Byt w a len r.zs) (hab : ∀ ad, a = some ad → ad.block < w.heap.size) : Calls Try.prog 18 #[r.v a len cap] w fun e w' => ∃ v, e = .returned (.tuple #[v, .int .i64 (r.rightV.2 : Int)]) ∧ OwnU w' w.heap.size v r.winV ∧ Below w.heap.size w w' := by
  unfold Rc.winV
  by_cases h : r.rightV.2 = 0
  · rw [if_pos h, h]
    obtain ⟨h1, h2⟩ := right_zero h
    exact rev_winners_ok r a len cap w hok hz hab h1 h2
  · rw [if_neg h]
    refine (rev_winners_no r a len cap w r.rightV.1 r.rightV.2 h (fun w1 hb => rev_right r a len cap w1 hok (hz.below (Nat.le_refl _) hb) (fun ad ha => Nat.lt_of_lt_of_le (hab ad ha) hb.size))).mono ?_
    rintro e w' ⟨rfl, hb⟩
    exact ⟨_, rfl, Owns.nil encU_len _ _, hb⟩
theorem rf_winnersV (hok : r.ok len cap) (hz : Byt w a len r.zs) (h60 : len ≤ 60000) : Calls Try.prog 26 #[r.v a len cap] w fun e w' => ∃ v, e = .returned (.tuple #[v, .int .i64 (r.rightV.2 : Int)]) ∧ OwnU w' w.heap.size v r.winV ∧ Below w.heap.size w w' := by
  unfold Rc.winV
  by_cases h : r.rightV.2 = 0
  · rw [if_pos h, h]
    obtain ⟨h1, h2⟩ := right_zero h
    exact rf_winners r a len cap w hok hz h60 h1 h2
  · rw [if_neg h]
    refine (rf_winners_no r a len cap w hok hz h60 h).mono ?_
    rintro e w' ⟨rfl, hb⟩
    exact ⟨_, rfl, Owns.nil encU_len _ _, hb⟩
theorem rev_findV (hok : r.ok len cap) (hz : Byt w a len r.zs) (hab : ∀ ad, a = some ad → ad.block < w.heap.size) (h60 : len ≤ 60000) : Calls Try.prog 21 #[r.v a len cap] w fun e w' => ∃ v, e = .returned (.tuple #[v, .int .i64 (r.rightV.2 : Int)]) ∧ OwnV w' w.heap.size v r.findV ∧ Below w.heap.size w w' := by
  unfold Rc.findV
  by_cases h : r.rightV.2 = 0
  · rw [if_pos h, h]
    obtain ⟨h1, h2⟩ := right_zero h
    exact rev_find_ok r a len cap w hok hz hab h1 h2 h60
  · rw [if_neg h]
    refine (rev_find_no r a len cap w r.rightV.1 r.rightV.2 h (fun w1 hb => rev_right r a len cap w1 hok (hz.below (Nat.le_refl _) hb) (fun ad ha => Nat.lt_of_lt_of_le (hab ad ha) hb.size))).mono ?_
    rintro e w' ⟨rfl, hb⟩
    exact ⟨_, rfl, Owns.nil rvk_len _ _, hb⟩
theorem rf_findV (hok : r.ok len cap) (hz : Byt w a len r.zs) (h60 : len ≤ 60000) : Calls Try.prog 27 #[r.v a len cap] w fun e w' => ∃ v, e = .returned (.tuple #[v, .int .i64 (r.rightV.2 : Int)]) ∧ OwnR w' w.heap.size v r.findV ∧ Below w.heap.size w w' := by
  unfold Rc.findV
  by_cases h : r.rightV.2 = 0
  · rw [if_pos h, h]
    obtain ⟨h1, h2⟩ := right_zero h
    exact rf_find r a len cap w hok hz h60 h1 h2
  · rw [if_neg h]
    refine (rf_find_no r a len cap w hok hz h60 h).mono ?_
    rintro e w' ⟨rfl, hb⟩
    exact ⟨_, rfl, Owns.nil rvk_len _ _, hb⟩
end
theorem winV_len {r : Rc} {len : Nat} (hl : r.zs.length ≤ len) : r.winV.length ≤ len := by
  unfold Rc.winV
  split
  · exact Nat.le_trans (winsTo_le _) (Nat.le_trans (sumTo_le (List.prefix_refl _)) hl)
  · exact Nat.zero_le _

theorem eq_rvk (x : Rvk) (w : World) : Sem.run Try.prog (Op.equalIn 10000 69 (.agg #[.int .i64 (x.trick : Int), .int .u8 (x.seat : Int), .int .u8 (x.suit : Int), .int .u8 (x.card : Int), .bool x.est]) (.agg #[.int .i64 (x.trick : Int), .int .u8 (x.seat : Int), .int .u8 (x.suit : Int), .int .u8 (x.card : Int), .bool x.est])) w = .ok true w := by
  rw [run_equalIn_struct (P := Try.prog) w 9999 _ _ _ (by kernel_rfl) (by kernel_rfl)]
  simp [go_sem]
theorem winV_byte {r : Rc} {len cap : Nat} (hok : r.ok len cap) (i : Nat) : r.winV.getD i 0 < 256 := by
  unfold Rc.winV
  split
  · exact wins_byte hok i
  · simp
theorem findV_small {r : Rc} {len : Nat} (hl : r.zs.length ≤ len) : r.findV.length ≤ len := by
  unfold Rc.findV
  split
  · exact Nat.le_trans (findAll_len _) (Nat.le_trans (sumTo_le (List.prefix_refl _)) hl)
  · exact Nat.zero_le _
theorem own_byt {w : World} {base g n cap : Nat} {zs : List Nat} (h : OwnU w base (.slice (some ⟨g, 0, none⟩) n cap) zs) (hl : zs.length = n) (hb : ∀ i, zs.getD i 0 < 256) (hs : n ≤ 1000) : Byt w (some ⟨g, 0, none⟩) n zs := by
  obtain ⟨a, c, he, -, -, -, -, hy⟩ := h.byt (by omega) hb
  injection he with he h1 h2
  subst he
  rw [hl] at hy
  exact hy
set_option maxHeartbeats 2000000 in
set_option maxRecDepth 100000 in
theorem tells_true (r : Rc) (a : Option Addr) (len cap : Nat) (w : World) (hok : r.ok len cap) (hz : Byt w a len r.zs) (hnil : a = none → cap = 0) :
    Calls Try.prog 11 #[r.v a len cap] w fun e w' => e = .returned (.bool true) ∧ Below w.heap.size w w' := by
  have hR := Row.new w 27 (r.cells a len cap)
  have hB := (Below.refl w.heap.size w).alloc (Nat.le_refl _) (.cells (r.cells a len cap) 27)
  have c0 := hR.cell 0
  have c1 := hR.cell 1
  have c2 := hR.cell 2
  have c3 := hR.cell 3
  have c4 := hR.cell 4
  have c5 := hR.cell 5
  have c6 := hR.cell 6
  simp only [List.getElem?_toArray, List.getElem?_cons_zero, List.getElem?_cons_succ] at c0 c1 c2 c3 c4 c5 c6
  have hf := hR.frozen
  unfold Rc.cells at *
  by_cases h60 : len ≤ 60
  · have hlB : decide ((len : Int) > 60) = false := by rw [decide_eq_false_iff_not]; omega
    go_enter Try.func11, Try.ntmps11
    go_wp2_with fail
    have hR1 := Row.new (w.alloc (.cells #[.int .u64 (r.h 0 : Int), .int .u64 (r.h 1 : Int), .int .u64 (r.h 2 : Int), .int .u64 (r.h 3 : Int), .int .u8 (r.t : Int), .int .u8 (r.d : Int), .slice a len cap] 27)) 57 #[.int .u64 (r.h 0 : Int), .int .u64 (r.h 1 : Int), .int .u64 (r.h 2 : Int), .int .u64 (r.h 3 : Int), .int .u8 (r.t : Int), .int .u8 (r.d : Int), .slice a len cap]
    have hB1 := hB.alloc (by simp) (.cells #[.int .u64 (r.h 0 : Int), .int .u64 (r.h 1 : Int), .int .u64 (r.h 2 : Int), .int .u64 (r.h 3 : Int), .int .u8 (r.t : Int), .int .u8 (r.d : Int), .slice a len cap] 57)
    have hR2 := Row.new ((w.alloc (.cells #[.int .u64 (r.h 0 : Int), .int .u64 (r.h 1 : Int), .int .u64 (r.h 2 : Int), .int .u64 (r.h 3 : Int), .int .u8 (r.t : Int), .int .u8 (r.d : Int), .slice a len cap] 27)).alloc (.cells #[.int .u64 (r.h 0 : Int), .int .u64 (r.h 1 : Int), .int .u64 (r.h 2 : Int), .int .u64 (r.h 3 : Int), .int .u8 (r.t : Int), .int .u8 (r.d : Int), .slice a len cap] 57)) 27 #[.int .u64 (r.h 0 : Int), .int .u64 (r.h 1 : Int), .int .u64 (r.h 2 : Int), .int .u64 (r.h 3 : Int), .int .u8 (r.t : Int), .int .u8 (r.d : Int), .slice a len cap]
    have hB2 := hB1.alloc (by simp; omega) (.cells #[.int .u64 (r.h 0 : Int), .int .u64 (r.h 1 : Int), .int .u64 (r.h 2 : Int), .int .u64 (r.h 3 : Int), .int .u8 (r.t : Int), .int .u8 (r.d : Int), .slice a len cap] 27)
    have hR01 := (hR.alloc (.cells #[.int .u64 (r.h 0 : Int), .int .u64 (r.h 1 : Int), .int .u64 (r.h 2 : Int), .int .u64 (r.h 3 : Int), .int .u8 (r.t : Int), .int .u8 (r.d : Int), .slice a len cap] 57)).alloc (.cells #[.int .u64 (r.h 0 : Int), .int .u64 (r.h 1 : Int), .int .u64 (r.h 2 : Int), .int .u64 (r.h 3 : Int), .int .u8 (r.t : Int), .int .u8 (r.d : Int), .slice a len cap] 27)
    have hR11 := hR1.alloc (.cells #[.int .u64 (r.h 0 : Int), .int .u64 (r.h 1 : Int), .int .u64 (r.h 2 : Int), .int .u64 (r.h 3 : Int), .int .u8 (r.t : Int), .int .u8 (r.d : Int), .slice a len cap] 27)
    clear c0 c1 c2 c3 c4 c5 c6 hR hR1 hB hB1 hf
    generalize hwx : ((w.alloc (.cells #[.int .u64 (r.h 0 : Int), .int .u64 (r.h 1 : Int), .int .u64 (r.h 2 : Int), .int .u64 (r.h 3 : Int), .int .u8 (r.t : Int), .int .u8 (r.d : Int), .slice a len cap] 27)).alloc (.cells #[.int .u64 (r.h 0 : Int), .int .u64 (r.h 1 : Int), .int .u64 (r.h 2 : Int), .int .u64 (r.h 3 : Int), .int .u8 (r.t : Int), .int .u8 (r.d : Int), .slice a len cap] 57)).alloc (.cells #[.int .u64 (r.h 0 : Int), .int .u64 (r.h 1 : Int), .int .u64 (r.h 2 : Int), .int .u64 (r.h 3 : Int), .int .u8 (r.t : Int), .int .u8 (r.d : Int), .slice a len cap] 27) = wa at *
    have hsa : wa.heap.size = w.heap.size + 3 := by rw [← hwx]; simp
    simp only [World.size_alloc] at hR11 hR2
    clear hwx
    have hza := hz.below (Nat.le_refl _) hB2
    refine (kit_lent a len cap r.zs wa hza hnil h60).mono ?_
    rintro e wb ⟨rfl, hGz, hBb, hGo⟩
    rw [hsa]
    have hR0b := hR01.below hR01.lt hBb
    have hR1b := hR11.below hR11.lt hBb
    have hR2b := hR2.below hR2.lt hBb
    have hBB := hB2.trans (hBb.mono hB2.size)
    clear hR01 hR11 hR2 hB2
    rw [hsa] at hGo
    clear hsa
    have c6 := hR2b.cell 6
    simp only [List.getElem?_toArray, List.getElem?_cons_zero, List.getElem?_cons_succ] at c6
    have hf := hR2b.frozen 6
    have hR0c := hR0b.other (B' := w.heap.size + 1 + 1) (i := 6) (v := .slice (some ⟨w.heap.size + 3, 0, none⟩) len (len + 12)) (by omega)
    have hR1c := hR1b.other (B' := w.heap.size + 1 + 1) (i := 6) (v := .slice (some ⟨w.heap.size + 3, 0, none⟩) len (len + 12)) (by omega)
    have hR2c : Row (wb.setCell ⟨w.heap.size + 1 + 1, 6, none⟩ (.slice (some ⟨w.heap.size + 3, 0, none⟩) len (len + 12))) (w.heap.size + 1 + 1) 27 (r.cells (some ⟨w.heap.size + 3, 0, none⟩) len (len + 12)) := hR2b.set 6 _
    have hBc := hBB.setCell (p := ⟨w.heap.size + 1 + 1, 6, none⟩) (by simp; omega) (.slice (some ⟨w.heap.size + 3, 0, none⟩) len (len + 12))
    have hGc : OwnU (wb.setCell ⟨w.heap.size + 1 + 1, 6, none⟩ (.slice (some ⟨w.heap.size + 3, 0, none⟩) len (len + 12))) (w.heap.size + 3) (.slice (some ⟨w.heap.size + 3, 0, none⟩) (len + 12) (len + 12)) (r.zs ++ marks) := Owns.kept (row := some (w.heap.size + 1 + 1)) hGo (grownBy_setCellU _ _ _) (.inl (by intro e; simp only [Value.ownBlock, Option.some.injEq] at e; omega))
    clear hR0b hR1b hR2b hBB hGo hGz
    have p0 := hR2c.cell 0
    have p1 := hR2c.cell 1
    have p2 := hR2c.cell 2
    have p3 := hR2c.cell 3
    have p4 := hR2c.cell 4
    have p5 := hR2c.cell 5
    have p6 := hR2c.cell 6
    simp only [List.getElem?_toArray, List.getElem?_cons_zero, List.getElem?_cons_succ] at p0 p1 p2 p3 p4 p5 p6
    go_wp2_with fail
    clear p0 p1 p2 p3 p4 p5 p6 c6 hf
    generalize wb.setCell ⟨w.heap.size + 1 + 1, 6, none⟩ (.slice (some ⟨w.heap.size + 3, 0, none⟩) len (len + 12)) = x0 at *
    clear hBb hza
    have h6k : len ≤ 60000 := by omega
    have hok2 : r.ok len (len + 12) := ⟨hok.h, hok.t, hok.d, by omega, by omega⟩
    have HA : Hid (∀ wx, Below x0.heap.size x0 wx → Byt wx a len r.zs) := Lib.hid fun wx hb => (hz.below (Nat.le_refl _) hBc).below (Nat.le_refl _) hb
    have HZL := Lib.hid hz.length
    have HZB := Lib.hid hz.byte
    have hGs := own_shrink hGc (m := len) (by rw [List.length_append, HZL.out]; omega)
    rw [List.take_left' HZL.out] at hGs
    have HG : Hid (∀ wx, Below x0.heap.size x0 wx → OwnU wx (w.heap.size + 3) (.slice (some ⟨w.heap.size + 3, 0, none⟩) len (len + 12)) r.zs) := Lib.hid fun wx hb => Owns.below hGs hb
    have HZ : Hid (∀ wx, Below x0.heap.size x0 wx → Byt wx (some ⟨w.heap.size + 3, 0, none⟩) len r.zs) := Lib.hid fun wx hb => own_byt (Owns.below hGs hb) HZL.out HZB.out (by omega)
    have HAB : Hid (∀ wx, Below x0.heap.size x0 wx → ∀ ad, some (⟨w.heap.size + 3, 0, none⟩ : Addr) = some ad → ad.block < wx.heap.size) := Lib.hid fun wx hb ad h => by
      have := (World.ownsRow.lt (Owns.below hGs hb).2 (w.heap.size + 3) rfl).2
      cases h; exact this
    have HGZ : Hid (∀ wx, Below x0.heap.size x0 wx → Byt wx (some ⟨w.heap.size + 3, 0, none⟩) (len + 12) (r.zs ++ marks)) := Lib.hid fun wx hb => own_byt (Owns.below hGc hb) (by rw [List.length_append, HZL.out, marks_length]) (byte_append HZB.out marks_byte) (by omega)
    have HR0 : Hid (∀ wx, Below x0.heap.size x0 wx → Row wx w.heap.size 27 (r.cells a len cap)) := Lib.hid fun wx hb => hR0c.below hR0c.lt hb
    have HR1 : Hid (∀ wx, Below x0.heap.size x0 wx → Row wx (w.heap.size + 1) 57 (r.cells a len cap)) := Lib.hid fun wx hb => hR1c.below hR1c.lt hb
    have HR2 : Hid (∀ wx, Below x0.heap.size x0 wx → Row wx (w.heap.size + 1 + 1) 27 (r.cells (some ⟨w.heap.size + 3, 0, none⟩) len (len + 12))) := Lib.hid fun wx hb => hR2c.below hR2c.lt hb
    have HBC := Lib.hid hBc
    have hb0 := Below.refl x0.heap.size x0
    clear hGs hGc hR0c hR1c hR2c hBc
    refine (rev_right r (some ⟨w.heap.size + 3, 0, none⟩) len (len + 12) x0 hok2 (HZ.out x0 hb0) (HAB.out x0 hb0)).mono ?_
    rintro e x1 ⟨rfl, hs1⟩
    have hb1 := hb0.trans (hs1.mono hb0.size)
    have hr1 := HR1.out x1 hb1
    have q0 := hr1.cell 0
    have q1 := hr1.cell 1
    have q2 := hr1.cell 2
    have q3 := hr1.cell 3
    have q4 := hr1.cell 4
    have q5 := hr1.cell 5
    have q6 := hr1.cell 6
    simp only [List.getElem?_toArray, List.getElem?_cons_zero, List.getElem?_cons_succ] at q0 q1 q2 q3 q4 q5 q6
    clear hr1
    go_wp2_with fail
    clear q0 q1 q2 q3 q4 q5 q6
    refine (rf_right r a len cap x1 hok (HA.out x1 hb1) h6k).mono ?_
    rintro e x2 ⟨rfl, hs2⟩
    have hb2 := hb1.trans (hs2.mono hb1.size)
    have hr2 := HR2.out x2 hb2
    have p0 := hr2.cell 0
    have p1 := hr2.cell 1
    have p2 := hr2.cell 2
    have p3 := hr2.cell 3
    have p4 := hr2.cell 4
    have p5 := hr2.cell 5
    have p6 := hr2.cell 6
    simp only [List.getElem?_toArray, List.getElem?_cons_zero, List.getElem?_cons_succ] at p0 p1 p2 p3 p4 p5 p6
    clear hr2
    go_wp2_with fail
    clear p0 p1 p2 p3 p4 p5 p6
    refine (rev_winnersV r (some ⟨w.heap.size + 3, 0, none⟩) len (len + 12) x2 hok2 (HZ.out x2 hb2) (HAB.out x2 hb2)).mono ?_
    rintro e x3 ⟨v2, rfl, ho2, hs3⟩
    obtain ⟨a2, k2, rfl, -, -, -, -, hy2⟩ := ho2.byt (by have := winV_len (r := r) (Nat.le_of_eq HZL.out); omega) (winV_byte hok)
    have hb3 := hb2.trans (hs3.mono hb2.size)
    have hch2 := Below.refl x3.heap.size x3
    have hr3 := HR1.out x3 hb3
    have q0 := hr3.cell 0
    have q1 := hr3.cell 1
    have q2 := hr3.cell 2
    have q3 := hr3.cell 3
    have q4 := hr3.cell 4
    have q5 := hr3.cell 5
    have q6 := hr3.cell 6
    simp only [List.getElem?_toArray, List.getElem?_cons_zero, List.getElem?_cons_succ] at q0 q1 q2 q3 q4 q5 q6
    clear hr3
    go_wp2_with fail
    clear q0 q1 q2 q3 q4 q5 q6
    refine (rf_winnersV r a len cap x3 hok (HA.out x3 hb3) h6k).mono ?_
    rintro e x4 ⟨v3, rfl, ho3, hs4⟩
    obtain ⟨a3, k3, rfl, -, -, -, -, hy3⟩ := ho3.byt (by have := winV_len (r := r) (Nat.le_of_eq HZL.out); omega) (winV_byte hok)
    have hb4 := hb3.trans (hs4.mono hb3.size)
    have hch2 := hch2.trans (hs4.mono hch2.size)
    have hch3 := Below.refl x4.heap.size x4
    have hr4 := HR2.out x4 hb4
    have p0 := hr4.cell 0
    have p1 := hr4.cell 1
    have p2 := hr4.cell 2
    have p3 := hr4.cell 3
    have p4 := hr4.cell 4
    have p5 := hr4.cell 5
    have p6 := hr4.cell 6
    simp only [List.getElem?_toArray, List.getElem?_cons_zero, List.getElem?_cons_succ] at p0 p1 p2 p3 p4 p5 p6
    clear hr4
    go_wp2_with fail
    clear p0 p1 p2 p3 p4 p5 p6
    refine (rev_findV r (some ⟨w.heap.size + 3, 0, none⟩) len (len + 12) x4 hok2 (HZ.out x4 hb4) (HAB.out x4 hb4) h6k).mono ?_
    rintro e x5 ⟨v4, rfl, ho4, hs5⟩
    obtain ⟨a4, k4, rfl, hn4⟩ := Owns.slice ho4
    have hb5 := hb4.trans (hs5.mono hb4.size)
    have hch2 := hch2.trans (hs5.mono hch2.size)
    have hch3 := hch3.trans (hs5.mono hch3.size)
    have hch4 := Below.refl x5.heap.size x5
    have hr5 := HR1.out x5 hb5
    have q0 := hr5.cell 0
    have q1 := hr5.cell 1
    have q2 := hr5.cell 2
    have q3 := hr5.cell 3
    have q4 := hr5.cell 4
    have q5 := hr5.cell 5
    have q6 := hr5.cell 6
    simp only [List.getElem?_toArray, List.getElem?_cons_zero, List.getElem?_cons_succ] at q0 q1 q2 q3 q4 q5 q6
    clear hr5
    go_wp2_with fail
    clear q0 q1 q2 q3 q4 q5 q6
    refine (rf_findV r a len cap x5 hok (HA.out x5 hb5) h6k).mono ?_
    rintro e x6 ⟨v5, rfl, ho5, hs6⟩
    obtain ⟨a5, k5, rfl, hn5⟩ := Owns.slice ho5
    have hb6 := hb5.trans (hs6.mono hb5.size)
    have hch2 := hch2.trans (hs6.mono hch2.size)
    have hch3 := hch3.trans (hs6.mono hch3.size)
    have hch4 := hch4.trans (hs6.mono hch4.size)
    have hch5 := Below.refl x6.heap.size x6
    have hr6 := HR2.out x6 hb6
    have p0 := hr6.cell 0
    have p1 := hr6.cell 1
    have p2 := hr6.cell 2
    have p3 := hr6.cell 3
    have p4 := hr6.cell 4
    have p5 := hr6.cell 5
    have p6 := hr6.cell 6
    simp only [List.getElem?_toArray, List.getElem?_cons_zero, List.getElem?_cons_succ] at p0 p1 p2 p3 p4 p5 p6
    clear hr6
    go_wp2_with fail
    clear p0 p1 p2 p3 p4 p5 p6
    refine (rev_moved r (some ⟨w.heap.size + 3, 0, none⟩) len (len + 12) x6 hok2 (HZ.out x6 hb6) (HAB.out x6 hb6) h6k).mono ?_
    rintro e x7 ⟨rfl, hs7⟩
    have hb7 := hb6.trans (hs7.mono hb6.size)
    have hch2 := hch2.trans (hs7.mono hch2.size)
    have hch3 := hch3.trans (hs7.mono hch3.size)
    have hch4 := hch4.trans (hs7.mono hch4.size)
    have hch5 := hch5.trans (hs7.mono hch5.size)
    have hr7 := HR1.out x7 hb7
    have q0 := hr7.cell 0
    have q1 := hr7.cell 1
    have q2 := hr7.cell 2
    have q3 := hr7.cell 3
    have q4 := hr7.cell 4
    have q5 := hr7.cell 5
    have q6 := hr7.cell 6
    simp only [List.getElem?_toArray, List.getElem?_cons_zero, List.getElem?_cons_succ] at q0 q1 q2 q3 q4 q5 q6
    clear hr7
    go_wp2_with fail
    clear q0 q1 q2 q3 q4 q5 q6
    refine (rf_moved r a len cap x7 hok (HA.out x7 hb7) h6k).mono ?_
    rintro e x8 ⟨rfl, hs8⟩
    have hb8 := hb7.trans (hs8.mono hb7.size)
    have hch2 := hch2.trans (hs8.mono hch2.size)
    have hch3 := hch3.trans (hs8.mono hch3.size)
    have hch4 := hch4.trans (hs8.mono hch4.size)
    have hch5 := hch5.trans (hs8.mono hch5.size)
    have hr8 := HR2.out x8 hb8
    have p0 := hr8.cell 0
    have p1 := hr8.cell 1
    have p2 := hr8.cell 2
    have p3 := hr8.cell 3
    have p4 := hr8.cell 4
    have p5 := hr8.cell 5
    have p6 := hr8.cell 6
    simp only [List.getElem?_toArray, List.getElem?_cons_zero, List.getElem?_cons_succ] at p0 p1 p2 p3 p4 p5 p6
    clear hr8
    go_wp2_with fail
    clear p0 p1 p2 p3 p4 p5 p6
    refine (rev_tricks r (some ⟨w.heap.size + 3, 0, none⟩) len (len + 12) x8 hok2 (HZ.out x8 hb8) (HAB.out x8 hb8) h6k).mono ?_
    rintro e x9 ⟨rfl, hs9⟩
    have hb9 := hb8.trans (hs9.mono hb8.size)
    have hch2 := hch2.trans (hs9.mono hch2.size)
    have hch3 := hch3.trans (hs9.mono hch3.size)
    have hch4 := hch4.trans (hs9.mono hch4.size)
    have hch5 := hch5.trans (hs9.mono hch5.size)
    have hr9 := HR1.out x9 hb9
    have q0 := hr9.cell 0
    have q1 := hr9.cell 1
    have q2 := hr9.cell 2
    have q3 := hr9.cell 3
    have q4 := hr9.cell 4
    have q5 := hr9.cell 5
    have q6 := hr9.cell 6
    simp only [List.getElem?_toArray, List.getElem?_cons_zero, List.getElem?_cons_succ] at q0 q1 q2 q3 q4 q5 q6
    clear hr9
    go_wp2_with fail
    clear q0 q1 q2 q3 q4 q5 q6
    refine (rf_tricks r a len cap x9 hok (HA.out x9 hb9) h6k).mono ?_
    rintro e x10 ⟨rfl, hs10⟩
    have hb10 := hb9.trans (hs10.mono hb9.size)
    have hch2 := hch2.trans (hs10.mono hch2.size)
    have hch3 := hch3.trans (hs10.mono hch3.size)
    have hch4 := hch4.trans (hs10.mono hch4.size)
    have hch5 := hch5.trans (hs10.mono hch5.size)
    have hy2' := hy2.below (Nat.le_refl _) hch2
    have hy3' := hy3.below (Nat.le_refl _) hch3
    clear hy2 hy3
    have hfl := findV_small (r := r) (Nat.le_of_eq HZL.out)
    go_wp2_with (go_at_call 30; refine (same_true a2 a3 _ k2 k3 r.winV x10 hy2' hy3').mono ?_; rintro e x11 ⟨rfl, hs11⟩)
    have hb11 := hb10.trans (hs11.mono hb10.size)
    have ho4' := Owns.below ho4 (hch4.trans (hs11.mono hch4.size))
    have ho5' := Owns.below ho5 (hch5.trans (hs11.mono hch5.size))
    have ho2' := Owns.below ho2 (hch2.trans (hs11.mono hch2.size))
    go_loopg [29, 132] r.findV.length (fun gk _ s wr => ∃ k : Nat, gk = r.findV.length - k ∧ k ≤ r.findV.length ∧ s = .int .i64 (k : Int) ∧ Below x11.heap.size x11 wr)
    case atStart => exact ⟨0, by omega, by omega, rfl, Below.refl _ _⟩
    case round =>
      obtain ⟨k, rfl, hk, rfl, hbk⟩ := hrel
      by_cases hlt : k < r.findV.length
      · obtain ⟨x, hx⟩ : ∃ x, r.findV[k]? = some x := ⟨_, List.getElem?_eq_getElem hlt⟩
        have hne : r.findV ≠ [] := by intro e; rw [e] at hlt; simp at hlt
        obtain ⟨g4, rfl⟩ := hn4 hne
        obtain ⟨g5, rfl⟩ := hn5 hne
        obtain ⟨c0, c1, c2, c3, c4⟩ := ownV_cells (Owns.below ho4' hbk) k hx
        obtain ⟨d0, d1, d2, d3, d4⟩ := ownR_cells (Owns.below ho5' hbk) k hx
        have rc0 := fun dd os => cell_regrown c0 dd os
        have rc1 := fun dd os => cell_regrown c1 dd os
        have rc2 := fun dd os => cell_regrown c2 dd os
        have rc3 := fun dd os => cell_regrown c3 dd os
        have rc4 := fun dd os => cell_regrown c4 dd os
        have rd0 := fun dd os => cell_regrown d0 dd os
        have rd1 := fun dd os => cell_regrown d1 dd os
        have rd2 := fun dd os => cell_regrown d2 dd os
        have rd3 := fun dd os => cell_regrown d3 dd os
        have rd4 := fun dd os => cell_regrown d4 dd os
        have HQ := Lib.hid (eq_rvk x)
        have hq := HQ.out
        have hltB : decide ((k : Int) < (r.findV.length : Int)) = true := by rw [decide_eq_true_eq]; omega
        clear hx hne
        go_wp2_with fail
        refine wp_region_quiet_below (by kernel_rfl) (by kernel_rfl) ?_
        repeat (first | go_big_quiet_step (fail) | quiet_step (fail))
        refine wpQuiet_nil ?_
        rintro _ ⟨p, rfl⟩
        have hb9 := below_regrown wr p.d p.os
        generalize grow (redrawn wr p.d) p.os = w9 at *
        go_wp2_with fail
        go_roundg (r.findV.length - (k + 1))
        case rel => exact ⟨k + 1, by omega, by omega, by go_num, hbk.trans (hb9.mono hbk.size)⟩
        case measure => omega
      · obtain rfl : k = r.findV.length := by omega
        have hb12 := hb11.trans (hbk.mono hb11.size)
        have hr0 := HR0.out wr hb12
        have hr2 := HR2.out wr hb12
        have p6 := hr0.cell 6
        simp only [List.getElem?_toArray, List.getElem?_cons_zero, List.getElem?_cons_succ] at p6
        have q6 := hr2.cell 6
        simp only [List.getElem?_toArray, List.getElem?_cons_zero, List.getElem?_cons_succ] at q6
        clear hr0 hr2
        have hlt' : decide ((r.findV.length : Int) < (r.findV.length : Int)) = false := by rw [decide_eq_false_iff_not]; omega
        go_wp2_with fail
        refine (kit_kept (w.heap.size + 3) a len cap r.zs wr (HA.out wr hb12) h60 (HGZ.out wr hb12)).mono ?_
        rintro e wc ⟨rfl, hs13⟩
        have hb13 := hb12.trans (hs13.mono hb12.size)
        have hr2 := HR2.out wc hb13
        have q6 := hr2.cell 6
        simp only [List.getElem?_toArray, List.getElem?_cons_zero, List.getElem?_cons_succ] at q6
        clear hr2
        go_wp2_with fail
        have hn := Row.new wc 25 #[.slice (some ⟨w.heap.size + 3, 0, none⟩) len (len + 12), .slice a2 r.winV.length k2]
        have hwin := winV_len (r := r) (Nat.le_of_eq HZL.out)
        have hbn := HBC.out.trans (hb13.mono HBC.out.size)
        have hbm := hbn.alloc hbn.size (.cells #[.slice (some ⟨w.heap.size + 3, 0, none⟩) len (len + 12), .slice a2 r.winV.length k2] 25)
        have hg0 : OwnU (wc.alloc (.cells #[.slice (some ⟨w.heap.size + 3, 0, none⟩) len (len + 12), .slice a2 r.winV.length k2] 25)) w.heap.size (.slice (some ⟨w.heap.size + 3, 0, none⟩) len (len + 12)) r.zs := ((HG.out wc hb13).mono (by omega)).alloc _
        have hlow : ∀ g, (Value.slice a2 r.winV.length k2).ownBlock = some g → w.heap.size + 3 < g := fun g h => by
          have h1 := (World.ownsRow.lt ho2.2 g h).1
          have h2 := HAB.out x2 hb2 _ rfl
          simp only at h2
          omega
        have hg2 : OwnU (wc.alloc (.cells #[.slice (some ⟨w.heap.size + 3, 0, none⟩) len (len + 12), .slice a2 r.winV.length k2] 25)) w.heap.size (.slice a2 r.winV.length k2) r.winV := ((Owns.below ho2' (hbk.trans (hs13.mono hbk.size))).mono (by have := (HBC.out.trans (hb2.mono HBC.out.size)).size; omega)).alloc _
        have hap : ∀ a b : Addr, some (⟨w.heap.size + 3, 0, none⟩ : Addr) = some a → a2 = some b → a.block ≠ b.block := fun a b h1 h2 => by
          have := hlow b.block (by rw [h2]; rfl)
          cases h1
          simp only
          omega
        refine (apart_bytes wc.heap.size 2 w.heap.size _ _ len (len + 12) r.winV.length k2 r.zs r.winV _ hn hg0 hg2 (by omega) (by omega) hap hbm.size).mono ?_
        rintro e wd ⟨rfl, hs14⟩
        clear hn hg0 hg2 hap hlow
        go_wp2_with fail
        go_ret
        exact ⟨rfl, hbm.trans hs14⟩
  · have hlB : decide ((len : Int) > 60) = true := by rw [decide_eq_true_eq]; omega
    go_enter Try.func11, Try.ntmps11
    go_wp2_with fail
    go_ret
    exact ⟨rfl, hB⟩
end Go.Proofs.Ytdlnilebnobllaa
