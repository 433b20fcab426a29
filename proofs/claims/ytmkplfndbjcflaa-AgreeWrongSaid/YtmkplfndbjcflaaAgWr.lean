/- AgreeWrong over this seat's program: the body. -/
import Derived.Test.YtmkplfndbjcflaaAgSu
import Derived.Deep.Cut
namespace Go.Proofs.Ytmkplfndbjcflaa
open Go.RowKit Go.Sort Go.Shelf Cnt

/-- a range by its ten numbers -/
def Rg.ofCell (c : Nat → Int) : Rg := ⟨c 0, c 1, c 2, c 3, c 4, c 5, c 6, c 7, c 8, c 9⟩
theorem ofCell_cell (c : Nat → Int) (j : Nat) (hj : j < 10) : (Rg.ofCell c).cell j = c j := by
  have h2 : j = 0 ∨ j = 1 ∨ j = 2 ∨ j = 3 ∨ j = 4 ∨ j = 5 ∨ j = 6 ∨ j = 7 ∨ j = 8 ∨ j = 9 := by omega
  rcases h2 with rfl | rfl | rfl | rfl | rfl | rfl | rfl | rfl | rfl | rfl <;> rfl
/-- one number of a range put -/
theorem MR.set {w : World} {base : Nat} {a : Option Addr} {n : Nat} {F F' : Nat → Nat → Int} (h : MR w base a n F) {i' o : Nat} (hi : i' < n) (ho : o < 10) (x : Int) (e : ∀ i j, i < n → j < 10 → F' i j = if i = i' ∧ j = o then x else F i j) :
    ∃ g, a = some ⟨g, 0, none⟩ ∧ base ≤ g ∧ (∃ z : Int, w.cell? ⟨g, i' * 10 + o, none⟩ = some (.int .i64 z)) ∧ w.frozen? ⟨g, i' * 10 + o, none⟩ = false ∧ MR (w.setCell ⟨g, i' * 10 + o, none⟩ (.int .i64 x)) base a n F' := by
  rcases h with h | ⟨g, cur, h1, h2, h3, h4, h5⟩
  · omega
  · refine ⟨g, h1, h2, ⟨_, (h3.cell _).trans (h5 i' o hi ho)⟩, h3.frozen _, .inr ⟨g, _, h1, h2, h3.set _ _, by simpa using h4, fun i j hi' hj => ?_⟩⟩
    rw [e i j hi' hj]
    by_cases h6 : i = i' ∧ j = o
    · rw [if_pos h6, h6.1, h6.2]
      have : i' * 10 + o < cur.size := by omega
      simp [this]
    · rw [if_neg h6, Array.getElem?_setIfInBounds_ne (by omega)]
      exact h5 i j hi' hj
/-- a list of ranges by its cells -/
def cellsF (A : List Rg) (i j : Nat) : Int := match A[i]? with | some r => r.cell j | none => 0
theorem MR.list {w : World} {base : Nat} {a : Option Addr} {F : Nat → Nat → Int} {n : Nat} (hn : n ≤ 100000) (h : MR w base a n F) : ∃ B : List Rg, B.length = n ∧ Rgs w a n B ∧ ∀ i, i < n → B[i]? = some (Rg.ofCell (F i)) := by
  have hl : ((List.range n).map fun i => Rg.ofCell (F i)).length = n := by simp
  refine ⟨(List.range n).map fun i => Rg.ofCell (F i), hl, ?_, fun i hi => by simp [hi]⟩
  have := MR.rgs (rs := (List.range n).map fun i => Rg.ofCell (F i)) (by rw [hl]; exact hn) (by rw [hl]; exact h) (fun i j r hr hj => by
    have hi : i < n := by rw [← hl]; exact (List.getElem?_eq_some_iff.1 hr).1
    rw [List.getElem?_map, List.getElem?_range hi] at hr
    obtain rfl : Rg.ofCell (F i) = r := by simpa using hr
    rw [ofCell_cell _ _ hj])
  rwa [hl] at this
theorem bad_pts (c : Nat → Int) (h : ordB (c 0) (c 1) 40 = false) : (Rg.ofCell c).ok = false := by
  unfold Rg.ok
  rw [show (Rg.ofCell c).p0 = c 0 from rfl, show (Rg.ofCell c).p1 = c 1 from rfl, h, Bool.and_false]
theorem bad_suit (c : Nat → Int) (s : Nat) (hs : s < 4) (h : ordB (c (2 + s * 2)) (c (2 + s * 2 + 1)) 13 = false) : (Rg.ofCell c).ok = false := by
  refine Rg.ok_false hs ?_
  have : s = 0 ∨ s = 1 ∨ s = 2 ∨ s = 3 := by omega
  rcases this with rfl | rfl | rfl | rfl <;> exact h
theorem ag_CountNo (left : Nat) (n : Int) (a : Option Addr) (la ca : Nat) (ra : List Rg) (hr : rightV ra = false) (w : World) (ha : Rgs w a la ra) :
    Calls Try.prog 15 #[.int .u64 (left : Int), .int .i64 n, .slice a la ca] w fun e w' => e = .returned (.tuple #[.int .i64 0, .int .i64 2]) ∧ Below w.heap.size w w' := by
  have h := ag_Count left n a la ca ra w ha
  have e : givenV left n ra [] = (0, 0, 2) := by
    unfold givenV
    rw [hr]
    simp
  rw [e] at h
  exact h
theorem ag_TotalNo (left : Nat) (n : Int) (hl : W64 left) (h : legalB left n = false) (w : World) :
    Calls Try.prog 33 #[.int .u64 (left : Int), .int .i64 n] w fun e w' => e = .returned (.tuple #[.int .i64 0, .int .i64 2]) ∧ w = w' := by
  have h1 := ag_Total left n w hl
  have e : totalV left n = (0, 2) := by
    unfold totalV
    rw [h]; rfl
  rw [e] at h1
  exact h1

theorem shl_big (bit : Nat) : legalB (shl1 (52 + bit % 12)) 1 = false := by
  unfold legalB shl1
  rw [if_pos (by omega)]
  have : 2 ^ 52 ≤ 2 ^ (52 + bit % 12) := Nat.pow_le_pow_right (by decide) (by omega)
  rw [decide_eq_false (p := 2 ^ (52 + bit % 12) < 4503599627370496) (by omega), Bool.and_false]
theorem shl_wrap (bit : Nat) : IntKind.u64.wrap ((2 : Int) ^ (52 + bit % 12)) = ((shl1 (52 + bit % 12) : Nat) : Int) := by
  have h : shl1 (52 + bit % 12) = 2 ^ (52 + bit % 12) := by unfold shl1; rw [if_pos (by omega)]
  have e : (2 : Int) ^ (52 + bit % 12) = ((2 ^ (52 + bit % 12) : Nat) : Int) := by simp
  rw [e, ← h, wrap_u64 _ (W64.shl1 _)]
theorem legal_mx (h : Nat) (n : Int) : legalB h (mx n 14) = false := by
  unfold legalB mx
  rw [decide_eq_false (p := (if n < 14 then (14 : Int) else n) ≤ 13) (by split <;> omega), Bool.and_false, Bool.false_and]
theorem legal_mn (h : Nat) (n : Int) : legalB h (mn n (-1)) = false := by
  unfold legalB mn
  rw [decide_eq_false (p := 0 ≤ (if -1 < n then (-1 : Int) else n)) (by split <;> omega), Bool.false_and, Bool.false_and]
theorem suit_mx (h : Nat) (k : Int) (A : List Rg) (n : Int) : (legalB h k && rightV A && (decide (0 ≤ mx n 4) && decide (mx n 4 < 4))) = false := by
  rw [decide_eq_false (p := mx n 4 < 4) (by unfold mx; split <;> omega), Bool.and_false, Bool.and_false]
theorem suit_mn (h : Nat) (k : Int) (A : List Rg) (n : Int) : (legalB h k && rightV A && (decide (0 ≤ mn n (-1)) && decide (mn n (-1) < 4))) = false := by
  rw [decide_eq_false (p := 0 ≤ mn n (-1)) (by unfold mn; split <;> omega), Bool.false_and, Bool.and_false]
theorem total_74 (w : World) : Calls Try.prog 33 #[.int .u64 7, .int .i64 4] w fun e w' => e = .returned (.tuple #[.int .i64 0, .int .i64 0]) ∧ w = w' := by
  have h := ag_Total 7 4 w (by unfold W64; decide)
  have e : totalV 7 4 = (0, 0) := by decide +kernel
  rw [e] at h
  exact h

set_option maxHeartbeats 4000000 in
set_option maxRecDepth 10000 in
theorem law_AgreeWrong (ax : Option Addr) (lx cx : Nat) (cs : List Cd) (way bit : Nat) (n : Int) (w : World) (hx : Cds w ax lx cs) (hlx : lx ≤ cx) (hway : way < 256) (hbit : bit < 256) (hn : -9223372036854775808 ≤ n ∧ n ≤ 9223372036854775807) :
    Calls Try.prog 11 #[.slice ax lx cx, .int .u8 (way : Int), .int .u8 (bit : Int), .int .i64 n] w fun e w' => e = .returned (.bool true) ∧ Below w.heap.size w w' := by
  have HX := Lib.hid hx
  have HNB := Lib.hid hn
  have KA := Lib.hid (made_ok cs)
  have LA := Lib.hid (made_len cs)
  generalize hma : made cs = A at *
  clear hx hn
  go_enter Try.func11, Try.ntmps11
  go_wp2_with fail
  refine (law_Made ax lx cx cs _ HX.out hlx).mono ?_
  rintro e w1 ⟨⟨v1, rfl, hv1⟩, hb1⟩
  rw [hma] at hv1
  have HV1 := Lib.hid hv1
  have HB1 := Lib.hid hb1
  clear hv1 hb1 hma
  go_wp2_with fail
  refine (law_all _).mono ?_
  rintro e w2 ⟨rfl, hb2⟩
  have HV2 := Lib.hid (HV1.out.later hb2)
  have HB2 := Lib.hid (HB1.out.trans (hb2.mono HB1.out.size))
  clear hb2 HV1 HB1
  have hal : Below w2.heap.size w2 (w2.alloc (.cells rgAll.arr 39)) := (Below.refl _ _).alloc (Nat.le_refl _) _
  have HV3 := Lib.hid (HV2.out.later hal)
  have HN3 := Lib.hid (rgs_new1 w2 rgAll)
  have HS3 := Lib.hid (HB2.out.trans (hal.mono HB2.out.size))
  clear hal
  have KAA : Hid (rightV (A ++ [rgAll]) = true) := Lib.hid (right_of (by have := LA.out; simp; omega) (by rw [List.all_append, (right_and A KA.out).2]; decide))
  have hlen : (A ++ [rgAll]).length = A.length + 1 := by simp
  have HLEN := Lib.hid hlen
  clear hlen
  go_upto_region 4 with (first
    | (refine appRn rfl (.tmp 38) (.tmp 40) rfl w.heap.size _ A [rgAll] rfl HV3.out _ 1 1 rfl HN3.out (fun h => by cases h) (by have := LA.out; omega) HS3.out.size ?_
       intro v4 w4 h1 h2 h3 h4
       obtain ⟨a4, c4, rfl, hR4, hle4, hn4⟩ := h1.rgs (by have := LA.out; rw [HLEN.out]; omega)
       have HR4 := Lib.hid hR4
       have HN4 := Lib.hid hn4
       have HB4 := Lib.hid (HS3.out.trans h2)
       clear h1 h2 h3 h4 hR4 hle4 hn4 HV3 HN3 HS3 HV2
       generalize A ++ [rgAll] = AA at *
       have hal2 : Below w4.heap.size w4 (w4.alloc (.cells #[] 39)) := (Below.refl _ _).alloc (Nat.le_refl _) _
       have HA5 := Lib.hid (HR4.out.below (Nat.le_refl _) hal2)
       have HO5 := Lib.hid (OwnR.made0 w4 w4.heap.size (Nat.le_refl _))
       have HS5 := Lib.hid hal2.size
       clear hal2)
    | (refine appRn rfl (.tmp 42) (.tmp 43) rfl w4.heap.size _ [] AA rfl HO5.out a4 AA.length c4 rfl HA5.out HN4.out (by have := LA.out; have := HLEN.out; simp; omega) HS5.out ?_
       intro v5 w5 h1 h2 h3 h4
       rw [List.nil_append] at h1
       obtain ⟨a5, c5, rfl, hc5, hm5⟩ := h1.mr
       replace hm5 : MR w5 w4.heap.size a5 AA.length (cellsF AA) := hm5
       obtain ⟨g, hga⟩ : ∃ g, a5 = some ⟨g, 0, none⟩ := by
         rcases hm5 with h0 | ⟨g, _, h, _⟩
         · have := HLEN.out; omega
         · exact ⟨g, h⟩
       subst hga
       have HM5 := Lib.hid hm5
       have HBB := Lib.hid (((Below.refl w4.heap.size w4).alloc (Nat.le_refl _) (.cells #[] 39)).trans h2)
       clear h1 h2 h3 h4 hm5 HA5 HO5 HS5 HN4
       have hlm := LA.out
       have hlm2 := HLEN.out
       generalize AA.length = m at *
       have hm0 : 0 < m := by omega
       have hm6 : m ≤ 5 := by omega
       clear hlm hlm2 HLEN
       have hbl : bit % m < m := Nat.mod_lt _ hm0
       have hbm : (bit : Int) % (m : Int) = ((bit % m : Nat) : Int) := by omega
       generalize bit % m = i0 at *
       have hil : (i0 : Int) < (m : Int) := by omega
       have hmz : ¬ (m : Int) = 0 := by omega))
  have hw6 : way % 6 = 0 ∨ way % 6 = 1 ∨ way % 6 = 2 ∨ way % 6 = 3 ∨ way % 6 = 4 ∨ way % 6 = 5 := by omega
  rcases hw6 with hw6 | hw6 | hw6 | hw6 | hw6 | hw6
  · have hwi : (way : Int) % 6 = 0 := by omega
    obtain ⟨g', hg', hgb, ⟨v0, hv0⟩, hfz, hMR⟩ := HM5.out.set hbl (show 0 < 10 by decide) (mn n (-1)) (F' := fun i j => if i = i0 ∧ j = 0 then mn n (-1) else cellsF AA i j) (fun i j _ _ => rfl)
    obtain rfl : g = g' := by simpa using hg'
    rw [Nat.add_zero] at hv0 hfz hMR
    have hbel : Below w4.heap.size w4 (w5.setCell ⟨g, i0 * 10, none⟩ (.int .i64 (mn n (-1)))) := HBB.out.setCell hgb _
    have HMR := Lib.hid hMR
    have HBEL := Lib.hid hbel
    clear hMR hbel hg' hgb
    go_wp2_with (refine wpList_min rfl (.tmp 64) (.const (.int .i64 (-1))) _ _ rfl n (-1) rfl rfl ?_)
    have hbad : (Rg.ofCell ((fun i j => if i = i0 ∧ j = 0 then mn n (-1) else cellsF AA i j) i0)).ok = false := bad_pts _ (by simp [ordB, mn]; split <;> omega)
    have hMR := HMR.out
    have hbel := HBEL.out
    generalize w5.setCell ⟨g, i0 * 10, none⟩ (.int .i64 (mn n (-1))) = wx at *
    clear HMR HBEL hv0 hfz hwi hw6
    obtain ⟨B, hBl, hRB, hBi⟩ := hMR.list (by omega)
    have KB : Hid (rightV B = false) := Lib.hid (right_bad (hBi i0 hbl) hbad)
    have HB := Lib.hid (HB4.out.trans (hbel.mono HB4.out.size))
    have HA := Lib.hid (HR4.out.below (Nat.le_refl _) hbel)
    have HRB := Lib.hid hRB
    clear hBl hRB hBi hbad hMR hbel HR4 HB4 HM5 HBB HB2 hbl hil hbm hmz
    have hb52 : ((52 : Int) + (bit : Int) % 12) = ((52 + bit % 12 : Nat) : Int) := by omega
    clear hb52
    go_wp2_with fail
    refine (ag_CountNo 7 1 _ m c5 B KB.out _ HRB.out).mono ?_
    rintro e u0 ⟨rfl, hb⟩
    have HA' := Lib.hid (HA.out.below (Nat.le_refl _) hb)
    have HRB' := Lib.hid (HRB.out.below (Nat.le_refl _) hb)
    have HB' := Lib.hid (HB.out.trans (hb.mono HB.out.size))
    clear hb HA HRB HB
    have HA := Lib.hid HA'.out
    have HRB := Lib.hid HRB'.out
    have HB := Lib.hid HB'.out
    clear HA' HRB' HB'
    go_wp2_with fail
    refine (ag_Both_no (some ⟨g, 0, none⟩) a4 m c5 m c4 B AA _ HRB.out HA.out (by rw [KB.out]; rfl)).mono ?_
    rintro e u1 ⟨rfl, hb⟩
    have HA' := Lib.hid (HA.out.below (Nat.le_refl _) hb)
    have HRB' := Lib.hid (HRB.out.below (Nat.le_refl _) hb)
    have HB' := Lib.hid (HB.out.trans (hb.mono HB.out.size))
    clear hb HA HRB HB
    have HA := Lib.hid HA'.out
    have HRB := Lib.hid HRB'.out
    have HB := Lib.hid HB'.out
    clear HA' HRB' HB'
    go_wp2_with fail
    refine (ag_Both_no a4 (some ⟨g, 0, none⟩) m c4 m c5 AA B _ HA.out HRB.out (by rw [KB.out, Bool.and_false])).mono ?_
    rintro e u2 ⟨rfl, hb⟩
    have HA' := Lib.hid (HA.out.below (Nat.le_refl _) hb)
    have HRB' := Lib.hid (HRB.out.below (Nat.le_refl _) hb)
    have HB' := Lib.hid (HB.out.trans (hb.mono HB.out.size))
    clear hb HA HRB HB
    have HA := Lib.hid HA'.out
    have HRB := Lib.hid HRB'.out
    have HB := Lib.hid HB'.out
    clear HA' HRB' HB'
    go_wp2_with fail
    refine (ag_Given_no 7 1 a4 (some ⟨g, 0, none⟩) m c4 m c5 AA B _ HA.out HRB.out (by rw [KB.out, Bool.and_false])).mono ?_
    rintro e u3 ⟨rfl, hb⟩
    have HA' := Lib.hid (HA.out.below (Nat.le_refl _) hb)
    have HRB' := Lib.hid (HRB.out.below (Nat.le_refl _) hb)
    have HB' := Lib.hid (HB.out.trans (hb.mono HB.out.size))
    clear hb HA HRB HB
    have HA := Lib.hid HA'.out
    have HRB := Lib.hid HRB'.out
    have HB := Lib.hid HB'.out
    clear HA' HRB' HB'
    go_wp2_with fail
    refine (ag_Spread_no 7 1 (some ⟨g, 0, none⟩) m c5 B _ HRB.out (by rw [KB.out, Bool.and_false])).mono ?_
    rintro e u4 ⟨rfl, hb⟩
    have HA' := Lib.hid (HA.out.below (Nat.le_refl _) hb)
    have HRB' := Lib.hid (HRB.out.below (Nat.le_refl _) hb)
    have HB' := Lib.hid (HB.out.trans (hb.mono HB.out.size))
    clear hb HA HRB HB
    have HA := Lib.hid HA'.out
    have HRB := Lib.hid HRB'.out
    have HB := Lib.hid HB'.out
    clear HA' HRB' HB'
    go_wp2_with fail
    refine (ag_Lengths_no 7 1 (some ⟨g, 0, none⟩) m c5 B 0 _ HRB.out (by rw [KB.out, Bool.and_false, Bool.false_and])).mono ?_
    rintro e u5 ⟨rfl, hb⟩
    have HA' := Lib.hid (HA.out.below (Nat.le_refl _) hb)
    have HRB' := Lib.hid (HRB.out.below (Nat.le_refl _) hb)
    have HB' := Lib.hid (HB.out.trans (hb.mono HB.out.size))
    clear hb HA HRB HB
    have HA := Lib.hid HA'.out
    have HRB := Lib.hid HRB'.out
    have HB := Lib.hid HB'.out
    clear HA' HRB' HB'
    go_wp2_with fail
    refine (ag_Right (some ⟨g, 0, none⟩) m c5 B _ HRB.out).mono ?_
    rintro e u6 ⟨rfl, hb⟩
    have HA' := Lib.hid (HA.out.below (Nat.le_refl _) hb)
    have HRB' := Lib.hid (HRB.out.below (Nat.le_refl _) hb)
    have HB' := Lib.hid (HB.out.trans (hb.mono HB.out.size))
    clear hb HA HRB HB
    have HA := Lib.hid HA'.out
    have HRB := Lib.hid HRB'.out
    have HB := Lib.hid HB'.out
    clear HA' HRB' HB'
    rw [KB.out]
    go_wp2_with fail
    rw [shl_wrap]
    refine (ag_TotalNo (shl1 (52 + bit % 12)) 1 (W64.shl1 _) (shl_big bit) _).mono ?_
    rintro e w' ⟨rfl, rfl⟩
    go_wp2_with (first
      | refine wpList_max rfl (.tmp 179) (.const (.int .i64 14)) _ _ rfl n 14 rfl rfl ?_
      | refine wpList_min rfl (.tmp 185) (.const (.int .i64 (-1))) _ _ rfl n (-1) rfl rfl ?_
      | refine wpList_max rfl (.tmp 192) (.const (.int .i64 4)) _ _ rfl n 4 rfl rfl ?_
      | refine wpList_min rfl (.tmp 199) (.const (.int .i64 (-1))) _ _ rfl n (-1) rfl rfl ?_)
    refine (ag_TotalNo 7 (mx n 14) (by unfold W64; decide) (legal_mx 7 n) _).mono ?_
    rintro e w' ⟨rfl, rfl⟩
    go_wp2_with (first
      | refine wpList_max rfl (.tmp 179) (.const (.int .i64 14)) _ _ rfl n 14 rfl rfl ?_
      | refine wpList_min rfl (.tmp 185) (.const (.int .i64 (-1))) _ _ rfl n (-1) rfl rfl ?_
      | refine wpList_max rfl (.tmp 192) (.const (.int .i64 4)) _ _ rfl n 4 rfl rfl ?_
      | refine wpList_min rfl (.tmp 199) (.const (.int .i64 (-1))) _ _ rfl n (-1) rfl rfl ?_)
    refine (ag_TotalNo 7 (mn n (-1)) (by unfold W64; decide) (legal_mn 7 n) _).mono ?_
    rintro e w' ⟨rfl, rfl⟩
    go_wp2_with (first
      | refine wpList_max rfl (.tmp 179) (.const (.int .i64 14)) _ _ rfl n 14 rfl rfl ?_
      | refine wpList_min rfl (.tmp 185) (.const (.int .i64 (-1))) _ _ rfl n (-1) rfl rfl ?_
      | refine wpList_max rfl (.tmp 192) (.const (.int .i64 4)) _ _ rfl n 4 rfl rfl ?_
      | refine wpList_min rfl (.tmp 199) (.const (.int .i64 (-1))) _ _ rfl n (-1) rfl rfl ?_)
    refine (ag_Lengths_no 7 1 a4 m c4 AA (mx n 4) _ HA.out (suit_mx 7 1 AA n)).mono ?_
    rintro e u10 ⟨rfl, hb⟩
    have HA' := Lib.hid (HA.out.below (Nat.le_refl _) hb)
    have HRB' := Lib.hid (HRB.out.below (Nat.le_refl _) hb)
    have HB' := Lib.hid (HB.out.trans (hb.mono HB.out.size))
    clear hb HA HRB HB
    have HA := Lib.hid HA'.out
    have HRB := Lib.hid HRB'.out
    have HB := Lib.hid HB'.out
    clear HA' HRB' HB'
    go_wp2_with (first
      | refine wpList_max rfl (.tmp 179) (.const (.int .i64 14)) _ _ rfl n 14 rfl rfl ?_
      | refine wpList_min rfl (.tmp 185) (.const (.int .i64 (-1))) _ _ rfl n (-1) rfl rfl ?_
      | refine wpList_max rfl (.tmp 192) (.const (.int .i64 4)) _ _ rfl n 4 rfl rfl ?_
      | refine wpList_min rfl (.tmp 199) (.const (.int .i64 (-1))) _ _ rfl n (-1) rfl rfl ?_)
    refine (ag_Lengths_no 7 1 a4 m c4 AA (mn n (-1)) _ HA.out (suit_mn 7 1 AA n)).mono ?_
    rintro e u11 ⟨rfl, hb⟩
    have HA' := Lib.hid (HA.out.below (Nat.le_refl _) hb)
    have HRB' := Lib.hid (HRB.out.below (Nat.le_refl _) hb)
    have HB' := Lib.hid (HB.out.trans (hb.mono HB.out.size))
    clear hb HA HRB HB
    have HA := Lib.hid HA'.out
    have HRB := Lib.hid HRB'.out
    have HB := Lib.hid HB'.out
    clear HA' HRB' HB'
    go_wp2_with (first
      | refine wpList_max rfl (.tmp 179) (.const (.int .i64 14)) _ _ rfl n 14 rfl rfl ?_
      | refine wpList_min rfl (.tmp 185) (.const (.int .i64 (-1))) _ _ rfl n (-1) rfl rfl ?_
      | refine wpList_max rfl (.tmp 192) (.const (.int .i64 4)) _ _ rfl n 4 rfl rfl ?_
      | refine wpList_min rfl (.tmp 199) (.const (.int .i64 (-1))) _ _ rfl n (-1) rfl rfl ?_)
    refine (total_74 _).mono ?_
    rintro e w' ⟨rfl, rfl⟩
    go_wp2_with (first
      | refine wpList_max rfl (.tmp 179) (.const (.int .i64 14)) _ _ rfl n 14 rfl rfl ?_
      | refine wpList_min rfl (.tmp 185) (.const (.int .i64 (-1))) _ _ rfl n (-1) rfl rfl ?_
      | refine wpList_max rfl (.tmp 192) (.const (.int .i64 4)) _ _ rfl n 4 rfl rfl ?_
      | refine wpList_min rfl (.tmp 199) (.const (.int .i64 (-1))) _ _ rfl n (-1) rfl rfl ?_)
    refine (law40_awake _).mono ?_
    rintro e u99 ⟨rfl, hb⟩
    have HB' := Lib.hid (HB.out.trans (hb.mono HB.out.size))
    clear hb HB
    go_wp2_with fail
    go_ret
    exact ⟨rfl, HB'.out⟩
  · have hwi : (way : Int) % 6 = 1 := by omega
    obtain ⟨g', hg', hgb, ⟨v0, hv0⟩, hfz, hMR⟩ := HM5.out.set hbl (show 1 < 10 by omega) (mx n 41) (F' := fun i j => if i = i0 ∧ j = 1 then mx n 41 else cellsF AA i j) (fun i j _ _ => rfl)
    obtain rfl : g = g' := by simpa using hg'
    rw [show i0 * 10 + (1) = i0 * 10 + 1 by omega] at hv0 hfz hMR
    have hbel : Below w4.heap.size w4 (w5.setCell ⟨g, i0 * 10 + 1, none⟩ (.int .i64 (mx n 41))) := HBB.out.setCell hgb _
    have HMR := Lib.hid hMR
    have HBEL := Lib.hid hbel
    clear hMR hbel hg' hgb
    go_wp2_with (refine wpList_max rfl (.tmp 72) (.const (.int .i64 41)) _ _ rfl n 41 rfl rfl ?_)
    have hbad : (Rg.ofCell ((fun i j => if i = i0 ∧ j = 1 then mx n 41 else cellsF AA i j) i0)).ok = false := bad_pts _ (by simp [ordB, mx]; split <;> omega)
    have hMR := HMR.out
    have hbel := HBEL.out
    generalize w5.setCell ⟨g, i0 * 10 + 1, none⟩ (.int .i64 (mx n 41)) = wx at *
    clear HMR HBEL hv0 hfz hwi hw6
    obtain ⟨B, hBl, hRB, hBi⟩ := hMR.list (by omega)
    have KB : Hid (rightV B = false) := Lib.hid (right_bad (hBi i0 hbl) hbad)
    have HB := Lib.hid (HB4.out.trans (hbel.mono HB4.out.size))
    have HA := Lib.hid (HR4.out.below (Nat.le_refl _) hbel)
    have HRB := Lib.hid hRB
    clear hBl hRB hBi hbad hMR hbel HR4 HB4 HM5 HBB HB2 hbl hil hbm hmz
    have hb52 : ((52 : Int) + (bit : Int) % 12) = ((52 + bit % 12 : Nat) : Int) := by omega
    clear hb52
    go_wp2_with fail
    refine (ag_CountNo 7 1 _ m c5 B KB.out _ HRB.out).mono ?_
    rintro e u0 ⟨rfl, hb⟩
    have HA' := Lib.hid (HA.out.below (Nat.le_refl _) hb)
    have HRB' := Lib.hid (HRB.out.below (Nat.le_refl _) hb)
    have HB' := Lib.hid (HB.out.trans (hb.mono HB.out.size))
    clear hb HA HRB HB
    have HA := Lib.hid HA'.out
    have HRB := Lib.hid HRB'.out
    have HB := Lib.hid HB'.out
    clear HA' HRB' HB'
    go_wp2_with fail
    refine (ag_Both_no (some ⟨g, 0, none⟩) a4 m c5 m c4 B AA _ HRB.out HA.out (by rw [KB.out]; rfl)).mono ?_
    rintro e u1 ⟨rfl, hb⟩
    have HA' := Lib.hid (HA.out.below (Nat.le_refl _) hb)
    have HRB' := Lib.hid (HRB.out.below (Nat.le_refl _) hb)
    have HB' := Lib.hid (HB.out.trans (hb.mono HB.out.size))
    clear hb HA HRB HB
    have HA := Lib.hid HA'.out
    have HRB := Lib.hid HRB'.out
    have HB := Lib.hid HB'.out
    clear HA' HRB' HB'
    go_wp2_with fail
    refine (ag_Both_no a4 (some ⟨g, 0, none⟩) m c4 m c5 AA B _ HA.out HRB.out (by rw [KB.out, Bool.and_false])).mono ?_
    rintro e u2 ⟨rfl, hb⟩
    have HA' := Lib.hid (HA.out.below (Nat.le_refl _) hb)
    have HRB' := Lib.hid (HRB.out.below (Nat.le_refl _) hb)
    have HB' := Lib.hid (HB.out.trans (hb.mono HB.out.size))
    clear hb HA HRB HB
    have HA := Lib.hid HA'.out
    have HRB := Lib.hid HRB'.out
    have HB := Lib.hid HB'.out
    clear HA' HRB' HB'
    go_wp2_with fail
    refine (ag_Given_no 7 1 a4 (some ⟨g, 0, none⟩) m c4 m c5 AA B _ HA.out HRB.out (by rw [KB.out, Bool.and_false])).mono ?_
    rintro e u3 ⟨rfl, hb⟩
    have HA' := Lib.hid (HA.out.below (Nat.le_refl _) hb)
    have HRB' := Lib.hid (HRB.out.below (Nat.le_refl _) hb)
    have HB' := Lib.hid (HB.out.trans (hb.mono HB.out.size))
    clear hb HA HRB HB
    have HA := Lib.hid HA'.out
    have HRB := Lib.hid HRB'.out
    have HB := Lib.hid HB'.out
    clear HA' HRB' HB'
    go_wp2_with fail
    refine (ag_Spread_no 7 1 (some ⟨g, 0, none⟩) m c5 B _ HRB.out (by rw [KB.out, Bool.and_false])).mono ?_
    rintro e u4 ⟨rfl, hb⟩
    have HA' := Lib.hid (HA.out.below (Nat.le_refl _) hb)
    have HRB' := Lib.hid (HRB.out.below (Nat.le_refl _) hb)
    have HB' := Lib.hid (HB.out.trans (hb.mono HB.out.size))
    clear hb HA HRB HB
    have HA := Lib.hid HA'.out
    have HRB := Lib.hid HRB'.out
    have HB := Lib.hid HB'.out
    clear HA' HRB' HB'
    go_wp2_with fail
    refine (ag_Lengths_no 7 1 (some ⟨g, 0, none⟩) m c5 B 0 _ HRB.out (by rw [KB.out, Bool.and_false, Bool.false_and])).mono ?_
    rintro e u5 ⟨rfl, hb⟩
    have HA' := Lib.hid (HA.out.below (Nat.le_refl _) hb)
    have HRB' := Lib.hid (HRB.out.below (Nat.le_refl _) hb)
    have HB' := Lib.hid (HB.out.trans (hb.mono HB.out.size))
    clear hb HA HRB HB
    have HA := Lib.hid HA'.out
    have HRB := Lib.hid HRB'.out
    have HB := Lib.hid HB'.out
    clear HA' HRB' HB'
    go_wp2_with fail
    refine (ag_Right (some ⟨g, 0, none⟩) m c5 B _ HRB.out).mono ?_
    rintro e u6 ⟨rfl, hb⟩
    have HA' := Lib.hid (HA.out.below (Nat.le_refl _) hb)
    have HRB' := Lib.hid (HRB.out.below (Nat.le_refl _) hb)
    have HB' := Lib.hid (HB.out.trans (hb.mono HB.out.size))
    clear hb HA HRB HB
    have HA := Lib.hid HA'.out
    have HRB := Lib.hid HRB'.out
    have HB := Lib.hid HB'.out
    clear HA' HRB' HB'
    rw [KB.out]
    go_wp2_with fail
    rw [shl_wrap]
    refine (ag_TotalNo (shl1 (52 + bit % 12)) 1 (W64.shl1 _) (shl_big bit) _).mono ?_
    rintro e w' ⟨rfl, rfl⟩
    go_wp2_with (first
      | refine wpList_max rfl (.tmp 179) (.const (.int .i64 14)) _ _ rfl n 14 rfl rfl ?_
      | refine wpList_min rfl (.tmp 185) (.const (.int .i64 (-1))) _ _ rfl n (-1) rfl rfl ?_
      | refine wpList_max rfl (.tmp 192) (.const (.int .i64 4)) _ _ rfl n 4 rfl rfl ?_
      | refine wpList_min rfl (.tmp 199) (.const (.int .i64 (-1))) _ _ rfl n (-1) rfl rfl ?_)
    refine (ag_TotalNo 7 (mx n 14) (by unfold W64; decide) (legal_mx 7 n) _).mono ?_
    rintro e w' ⟨rfl, rfl⟩
    go_wp2_with (first
      | refine wpList_max rfl (.tmp 179) (.const (.int .i64 14)) _ _ rfl n 14 rfl rfl ?_
      | refine wpList_min rfl (.tmp 185) (.const (.int .i64 (-1))) _ _ rfl n (-1) rfl rfl ?_
      | refine wpList_max rfl (.tmp 192) (.const (.int .i64 4)) _ _ rfl n 4 rfl rfl ?_
      | refine wpList_min rfl (.tmp 199) (.const (.int .i64 (-1))) _ _ rfl n (-1) rfl rfl ?_)
    refine (ag_TotalNo 7 (mn n (-1)) (by unfold W64; decide) (legal_mn 7 n) _).mono ?_
    rintro e w' ⟨rfl, rfl⟩
    go_wp2_with (first
      | refine wpList_max rfl (.tmp 179) (.const (.int .i64 14)) _ _ rfl n 14 rfl rfl ?_
      | refine wpList_min rfl (.tmp 185) (.const (.int .i64 (-1))) _ _ rfl n (-1) rfl rfl ?_
      | refine wpList_max rfl (.tmp 192) (.const (.int .i64 4)) _ _ rfl n 4 rfl rfl ?_
      | refine wpList_min rfl (.tmp 199) (.const (.int .i64 (-1))) _ _ rfl n (-1) rfl rfl ?_)
    refine (ag_Lengths_no 7 1 a4 m c4 AA (mx n 4) _ HA.out (suit_mx 7 1 AA n)).mono ?_
    rintro e u10 ⟨rfl, hb⟩
    have HA' := Lib.hid (HA.out.below (Nat.le_refl _) hb)
    have HRB' := Lib.hid (HRB.out.below (Nat.le_refl _) hb)
    have HB' := Lib.hid (HB.out.trans (hb.mono HB.out.size))
    clear hb HA HRB HB
    have HA := Lib.hid HA'.out
    have HRB := Lib.hid HRB'.out
    have HB := Lib.hid HB'.out
    clear HA' HRB' HB'
    go_wp2_with (first
      | refine wpList_max rfl (.tmp 179) (.const (.int .i64 14)) _ _ rfl n 14 rfl rfl ?_
      | refine wpList_min rfl (.tmp 185) (.const (.int .i64 (-1))) _ _ rfl n (-1) rfl rfl ?_
      | refine wpList_max rfl (.tmp 192) (.const (.int .i64 4)) _ _ rfl n 4 rfl rfl ?_
      | refine wpList_min rfl (.tmp 199) (.const (.int .i64 (-1))) _ _ rfl n (-1) rfl rfl ?_)
    refine (ag_Lengths_no 7 1 a4 m c4 AA (mn n (-1)) _ HA.out (suit_mn 7 1 AA n)).mono ?_
    rintro e u11 ⟨rfl, hb⟩
    have HA' := Lib.hid (HA.out.below (Nat.le_refl _) hb)
    have HRB' := Lib.hid (HRB.out.below (Nat.le_refl _) hb)
    have HB' := Lib.hid (HB.out.trans (hb.mono HB.out.size))
    clear hb HA HRB HB
    have HA := Lib.hid HA'.out
    have HRB := Lib.hid HRB'.out
    have HB := Lib.hid HB'.out
    clear HA' HRB' HB'
    go_wp2_with (first
      | refine wpList_max rfl (.tmp 179) (.const (.int .i64 14)) _ _ rfl n 14 rfl rfl ?_
      | refine wpList_min rfl (.tmp 185) (.const (.int .i64 (-1))) _ _ rfl n (-1) rfl rfl ?_
      | refine wpList_max rfl (.tmp 192) (.const (.int .i64 4)) _ _ rfl n 4 rfl rfl ?_
      | refine wpList_min rfl (.tmp 199) (.const (.int .i64 (-1))) _ _ rfl n (-1) rfl rfl ?_)
    refine (total_74 _).mono ?_
    rintro e w' ⟨rfl, rfl⟩
    go_wp2_with (first
      | refine wpList_max rfl (.tmp 179) (.const (.int .i64 14)) _ _ rfl n 14 rfl rfl ?_
      | refine wpList_min rfl (.tmp 185) (.const (.int .i64 (-1))) _ _ rfl n (-1) rfl rfl ?_
      | refine wpList_max rfl (.tmp 192) (.const (.int .i64 4)) _ _ rfl n 4 rfl rfl ?_
      | refine wpList_min rfl (.tmp 199) (.const (.int .i64 (-1))) _ _ rfl n (-1) rfl rfl ?_)
    refine (law40_awake _).mono ?_
    rintro e u99 ⟨rfl, hb⟩
    have HB' := Lib.hid (HB.out.trans (hb.mono HB.out.size))
    clear hb HB
    go_wp2_with fail
    go_ret
    exact ⟨rfl, HB'.out⟩
  · have hwi : (way : Int) % 6 = 2 := by omega
    obtain ⟨q, HQ⟩ : ∃ q, Hid (bit % 4 = q) := ⟨_, Lib.hid rfl⟩
    have hq4 : q < 4 := by have := HQ.out; omega
    have hqi : (bit : Int) % 4 = (q : Int) := by have := HQ.out; omega
    have hq4i : (q : Int) < 4 := by omega
    obtain ⟨g', hg', hgb, ⟨v0, hv0⟩, hfz, hMR⟩ := HM5.out.set hbl (show 2 + q * 2 < 10 by omega) (mn n (-1)) (F' := fun i j => if i = i0 ∧ j = 2 + q * 2 then mn n (-1) else cellsF AA i j) (fun i j _ _ => rfl)
    obtain rfl : g = g' := by simpa using hg'
    rw [show i0 * 10 + (2 + q * 2) = i0 * 10 + 2 + q * 2 by omega] at hv0 hfz hMR
    have hbel : Below w4.heap.size w4 (w5.setCell ⟨g, i0 * 10 + 2 + q * 2, none⟩ (.int .i64 (mn n (-1)))) := HBB.out.setCell hgb _
    have HMR := Lib.hid hMR
    have HBEL := Lib.hid hbel
    clear hMR hbel hg' hgb
    go_wp2_with (refine wpList_min rfl (.tmp 82) (.const (.int .i64 (-1))) _ _ rfl n (-1) rfl rfl ?_)
    have hbad : (Rg.ofCell ((fun i j => if i = i0 ∧ j = 2 + q * 2 then mn n (-1) else cellsF AA i j) i0)).ok = false := bad_suit _ q hq4 (by simp [ordB, mn]; split <;> omega)
    have hMR := HMR.out
    have hbel := HBEL.out
    generalize w5.setCell ⟨g, i0 * 10 + 2 + q * 2, none⟩ (.int .i64 (mn n (-1))) = wx at *
    clear HMR HBEL hv0 hfz hwi hw6
    obtain ⟨B, hBl, hRB, hBi⟩ := hMR.list (by omega)
    have KB : Hid (rightV B = false) := Lib.hid (right_bad (hBi i0 hbl) hbad)
    have HB := Lib.hid (HB4.out.trans (hbel.mono HB4.out.size))
    have HA := Lib.hid (HR4.out.below (Nat.le_refl _) hbel)
    have HRB := Lib.hid hRB
    clear hBl hRB hBi hbad hMR hbel HR4 HB4 HM5 HBB HB2 hbl hil hbm hmz
    have hb52 : ((52 : Int) + (bit : Int) % 12) = ((52 + bit % 12 : Nat) : Int) := by omega
    clear hb52
    go_wp2_with fail
    refine (ag_CountNo 7 1 _ m c5 B KB.out _ HRB.out).mono ?_
    rintro e u0 ⟨rfl, hb⟩
    have HA' := Lib.hid (HA.out.below (Nat.le_refl _) hb)
    have HRB' := Lib.hid (HRB.out.below (Nat.le_refl _) hb)
    have HB' := Lib.hid (HB.out.trans (hb.mono HB.out.size))
    clear hb HA HRB HB
    have HA := Lib.hid HA'.out
    have HRB := Lib.hid HRB'.out
    have HB := Lib.hid HB'.out
    clear HA' HRB' HB'
    go_wp2_with fail
    refine (ag_Both_no (some ⟨g, 0, none⟩) a4 m c5 m c4 B AA _ HRB.out HA.out (by rw [KB.out]; rfl)).mono ?_
    rintro e u1 ⟨rfl, hb⟩
    have HA' := Lib.hid (HA.out.below (Nat.le_refl _) hb)
    have HRB' := Lib.hid (HRB.out.below (Nat.le_refl _) hb)
    have HB' := Lib.hid (HB.out.trans (hb.mono HB.out.size))
    clear hb HA HRB HB
    have HA := Lib.hid HA'.out
    have HRB := Lib.hid HRB'.out
    have HB := Lib.hid HB'.out
    clear HA' HRB' HB'
    go_wp2_with fail
    refine (ag_Both_no a4 (some ⟨g, 0, none⟩) m c4 m c5 AA B _ HA.out HRB.out (by rw [KB.out, Bool.and_false])).mono ?_
    rintro e u2 ⟨rfl, hb⟩
    have HA' := Lib.hid (HA.out.below (Nat.le_refl _) hb)
    have HRB' := Lib.hid (HRB.out.below (Nat.le_refl _) hb)
    have HB' := Lib.hid (HB.out.trans (hb.mono HB.out.size))
    clear hb HA HRB HB
    have HA := Lib.hid HA'.out
    have HRB := Lib.hid HRB'.out
    have HB := Lib.hid HB'.out
    clear HA' HRB' HB'
    go_wp2_with fail
    refine (ag_Given_no 7 1 a4 (some ⟨g, 0, none⟩) m c4 m c5 AA B _ HA.out HRB.out (by rw [KB.out, Bool.and_false])).mono ?_
    rintro e u3 ⟨rfl, hb⟩
    have HA' := Lib.hid (HA.out.below (Nat.le_refl _) hb)
    have HRB' := Lib.hid (HRB.out.below (Nat.le_refl _) hb)
    have HB' := Lib.hid (HB.out.trans (hb.mono HB.out.size))
    clear hb HA HRB HB
    have HA := Lib.hid HA'.out
    have HRB := Lib.hid HRB'.out
    have HB := Lib.hid HB'.out
    clear HA' HRB' HB'
    go_wp2_with fail
    refine (ag_Spread_no 7 1 (some ⟨g, 0, none⟩) m c5 B _ HRB.out (by rw [KB.out, Bool.and_false])).mono ?_
    rintro e u4 ⟨rfl, hb⟩
    have HA' := Lib.hid (HA.out.below (Nat.le_refl _) hb)
    have HRB' := Lib.hid (HRB.out.below (Nat.le_refl _) hb)
    have HB' := Lib.hid (HB.out.trans (hb.mono HB.out.size))
    clear hb HA HRB HB
    have HA := Lib.hid HA'.out
    have HRB := Lib.hid HRB'.out
    have HB := Lib.hid HB'.out
    clear HA' HRB' HB'
    go_wp2_with fail
    refine (ag_Lengths_no 7 1 (some ⟨g, 0, none⟩) m c5 B 0 _ HRB.out (by rw [KB.out, Bool.and_false, Bool.false_and])).mono ?_
    rintro e u5 ⟨rfl, hb⟩
    have HA' := Lib.hid (HA.out.below (Nat.le_refl _) hb)
    have HRB' := Lib.hid (HRB.out.below (Nat.le_refl _) hb)
    have HB' := Lib.hid (HB.out.trans (hb.mono HB.out.size))
    clear hb HA HRB HB
    have HA := Lib.hid HA'.out
    have HRB := Lib.hid HRB'.out
    have HB := Lib.hid HB'.out
    clear HA' HRB' HB'
    go_wp2_with fail
    refine (ag_Right (some ⟨g, 0, none⟩) m c5 B _ HRB.out).mono ?_
    rintro e u6 ⟨rfl, hb⟩
    have HA' := Lib.hid (HA.out.below (Nat.le_refl _) hb)
    have HRB' := Lib.hid (HRB.out.below (Nat.le_refl _) hb)
    have HB' := Lib.hid (HB.out.trans (hb.mono HB.out.size))
    clear hb HA HRB HB
    have HA := Lib.hid HA'.out
    have HRB := Lib.hid HRB'.out
    have HB := Lib.hid HB'.out
    clear HA' HRB' HB'
    rw [KB.out]
    go_wp2_with fail
    rw [shl_wrap]
    refine (ag_TotalNo (shl1 (52 + bit % 12)) 1 (W64.shl1 _) (shl_big bit) _).mono ?_
    rintro e w' ⟨rfl, rfl⟩
    go_wp2_with (first
      | refine wpList_max rfl (.tmp 179) (.const (.int .i64 14)) _ _ rfl n 14 rfl rfl ?_
      | refine wpList_min rfl (.tmp 185) (.const (.int .i64 (-1))) _ _ rfl n (-1) rfl rfl ?_
      | refine wpList_max rfl (.tmp 192) (.const (.int .i64 4)) _ _ rfl n 4 rfl rfl ?_
      | refine wpList_min rfl (.tmp 199) (.const (.int .i64 (-1))) _ _ rfl n (-1) rfl rfl ?_)
    refine (ag_TotalNo 7 (mx n 14) (by unfold W64; decide) (legal_mx 7 n) _).mono ?_
    rintro e w' ⟨rfl, rfl⟩
    go_wp2_with (first
      | refine wpList_max rfl (.tmp 179) (.const (.int .i64 14)) _ _ rfl n 14 rfl rfl ?_
      | refine wpList_min rfl (.tmp 185) (.const (.int .i64 (-1))) _ _ rfl n (-1) rfl rfl ?_
      | refine wpList_max rfl (.tmp 192) (.const (.int .i64 4)) _ _ rfl n 4 rfl rfl ?_
      | refine wpList_min rfl (.tmp 199) (.const (.int .i64 (-1))) _ _ rfl n (-1) rfl rfl ?_)
    refine (ag_TotalNo 7 (mn n (-1)) (by unfold W64; decide) (legal_mn 7 n) _).mono ?_
    rintro e w' ⟨rfl, rfl⟩
    go_wp2_with (first
      | refine wpList_max rfl (.tmp 179) (.const (.int .i64 14)) _ _ rfl n 14 rfl rfl ?_
      | refine wpList_min rfl (.tmp 185) (.const (.int .i64 (-1))) _ _ rfl n (-1) rfl rfl ?_
      | refine wpList_max rfl (.tmp 192) (.const (.int .i64 4)) _ _ rfl n 4 rfl rfl ?_
      | refine wpList_min rfl (.tmp 199) (.const (.int .i64 (-1))) _ _ rfl n (-1) rfl rfl ?_)
    refine (ag_Lengths_no 7 1 a4 m c4 AA (mx n 4) _ HA.out (suit_mx 7 1 AA n)).mono ?_
    rintro e u10 ⟨rfl, hb⟩
    have HA' := Lib.hid (HA.out.below (Nat.le_refl _) hb)
    have HRB' := Lib.hid (HRB.out.below (Nat.le_refl _) hb)
    have HB' := Lib.hid (HB.out.trans (hb.mono HB.out.size))
    clear hb HA HRB HB
    have HA := Lib.hid HA'.out
    have HRB := Lib.hid HRB'.out
    have HB := Lib.hid HB'.out
    clear HA' HRB' HB'
    go_wp2_with (first
      | refine wpList_max rfl (.tmp 179) (.const (.int .i64 14)) _ _ rfl n 14 rfl rfl ?_
      | refine wpList_min rfl (.tmp 185) (.const (.int .i64 (-1))) _ _ rfl n (-1) rfl rfl ?_
      | refine wpList_max rfl (.tmp 192) (.const (.int .i64 4)) _ _ rfl n 4 rfl rfl ?_
      | refine wpList_min rfl (.tmp 199) (.const (.int .i64 (-1))) _ _ rfl n (-1) rfl rfl ?_)
    refine (ag_Lengths_no 7 1 a4 m c4 AA (mn n (-1)) _ HA.out (suit_mn 7 1 AA n)).mono ?_
    rintro e u11 ⟨rfl, hb⟩
    have HA' := Lib.hid (HA.out.below (Nat.le_refl _) hb)
    have HRB' := Lib.hid (HRB.out.below (Nat.le_refl _) hb)
    have HB' := Lib.hid (HB.out.trans (hb.mono HB.out.size))
    clear hb HA HRB HB
    have HA := Lib.hid HA'.out
    have HRB := Lib.hid HRB'.out
    have HB := Lib.hid HB'.out
    clear HA' HRB' HB'
    go_wp2_with (first
      | refine wpList_max rfl (.tmp 179) (.const (.int .i64 14)) _ _ rfl n 14 rfl rfl ?_
      | refine wpList_min rfl (.tmp 185) (.const (.int .i64 (-1))) _ _ rfl n (-1) rfl rfl ?_
      | refine wpList_max rfl (.tmp 192) (.const (.int .i64 4)) _ _ rfl n 4 rfl rfl ?_
      | refine wpList_min rfl (.tmp 199) (.const (.int .i64 (-1))) _ _ rfl n (-1) rfl rfl ?_)
    refine (total_74 _).mono ?_
    rintro e w' ⟨rfl, rfl⟩
    go_wp2_with (first
      | refine wpList_max rfl (.tmp 179) (.const (.int .i64 14)) _ _ rfl n 14 rfl rfl ?_
      | refine wpList_min rfl (.tmp 185) (.const (.int .i64 (-1))) _ _ rfl n (-1) rfl rfl ?_
      | refine wpList_max rfl (.tmp 192) (.const (.int .i64 4)) _ _ rfl n 4 rfl rfl ?_
      | refine wpList_min rfl (.tmp 199) (.const (.int .i64 (-1))) _ _ rfl n (-1) rfl rfl ?_)
    refine (law40_awake _).mono ?_
    rintro e u99 ⟨rfl, hb⟩
    have HB' := Lib.hid (HB.out.trans (hb.mono HB.out.size))
    clear hb HB
    go_wp2_with fail
    go_ret
    exact ⟨rfl, HB'.out⟩
  · have hwi : (way : Int) % 6 = 3 := by omega
    obtain ⟨q, HQ⟩ : ∃ q, Hid (bit % 4 = q) := ⟨_, Lib.hid rfl⟩
    have hq4 : q < 4 := by have := HQ.out; omega
    have hqi : (bit : Int) % 4 = (q : Int) := by have := HQ.out; omega
    have hq4i : (q : Int) < 4 := by omega
    obtain ⟨g', hg', hgb, ⟨v0, hv0⟩, hfz, hMR⟩ := HM5.out.set hbl (show 2 + q * 2 + 1 < 10 by omega) (mx n 14) (F' := fun i j => if i = i0 ∧ j = 2 + q * 2 + 1 then mx n 14 else cellsF AA i j) (fun i j _ _ => rfl)
    obtain rfl : g = g' := by simpa using hg'
    rw [show i0 * 10 + (2 + q * 2 + 1) = i0 * 10 + 2 + q * 2 + 1 by omega] at hv0 hfz hMR
    have hbel : Below w4.heap.size w4 (w5.setCell ⟨g, i0 * 10 + 2 + q * 2 + 1, none⟩ (.int .i64 (mx n 14))) := HBB.out.setCell hgb _
    have HMR := Lib.hid hMR
    have HBEL := Lib.hid hbel
    clear hMR hbel hg' hgb
    go_wp2_with (refine wpList_max rfl (.tmp 93) (.const (.int .i64 14)) _ _ rfl n 14 rfl rfl ?_)
    have hbad : (Rg.ofCell ((fun i j => if i = i0 ∧ j = 2 + q * 2 + 1 then mx n 14 else cellsF AA i j) i0)).ok = false := bad_suit _ q hq4 (by simp [ordB, mx]; split <;> omega)
    have hMR := HMR.out
    have hbel := HBEL.out
    generalize w5.setCell ⟨g, i0 * 10 + 2 + q * 2 + 1, none⟩ (.int .i64 (mx n 14)) = wx at *
    clear HMR HBEL hv0 hfz hwi hw6
    obtain ⟨B, hBl, hRB, hBi⟩ := hMR.list (by omega)
    have KB : Hid (rightV B = false) := Lib.hid (right_bad (hBi i0 hbl) hbad)
    have HB := Lib.hid (HB4.out.trans (hbel.mono HB4.out.size))
    have HA := Lib.hid (HR4.out.below (Nat.le_refl _) hbel)
    have HRB := Lib.hid hRB
    clear hBl hRB hBi hbad hMR hbel HR4 HB4 HM5 HBB HB2 hbl hil hbm hmz
    have hb52 : ((52 : Int) + (bit : Int) % 12) = ((52 + bit % 12 : Nat) : Int) := by omega
    clear hb52
    go_wp2_with fail
    refine (ag_CountNo 7 1 _ m c5 B KB.out _ HRB.out).mono ?_
    rintro e u0 ⟨rfl, hb⟩
    have HA' := Lib.hid (HA.out.below (Nat.le_refl _) hb)
    have HRB' := Lib.hid (HRB.out.below (Nat.le_refl _) hb)
    have HB' := Lib.hid (HB.out.trans (hb.mono HB.out.size))
    clear hb HA HRB HB
    have HA := Lib.hid HA'.out
    have HRB := Lib.hid HRB'.out
    have HB := Lib.hid HB'.out
    clear HA' HRB' HB'
    go_wp2_with fail
    refine (ag_Both_no (some ⟨g, 0, none⟩) a4 m c5 m c4 B AA _ HRB.out HA.out (by rw [KB.out]; rfl)).mono ?_
    rintro e u1 ⟨rfl, hb⟩
    have HA' := Lib.hid (HA.out.below (Nat.le_refl _) hb)
    have HRB' := Lib.hid (HRB.out.below (Nat.le_refl _) hb)
    have HB' := Lib.hid (HB.out.trans (hb.mono HB.out.size))
    clear hb HA HRB HB
    have HA := Lib.hid HA'.out
    have HRB := Lib.hid HRB'.out
    have HB := Lib.hid HB'.out
    clear HA' HRB' HB'
    go_wp2_with fail
    refine (ag_Both_no a4 (some ⟨g, 0, none⟩) m c4 m c5 AA B _ HA.out HRB.out (by rw [KB.out, Bool.and_false])).mono ?_
    rintro e u2 ⟨rfl, hb⟩
    have HA' := Lib.hid (HA.out.below (Nat.le_refl _) hb)
    have HRB' := Lib.hid (HRB.out.below (Nat.le_refl _) hb)
    have HB' := Lib.hid (HB.out.trans (hb.mono HB.out.size))
    clear hb HA HRB HB
    have HA := Lib.hid HA'.out
    have HRB := Lib.hid HRB'.out
    have HB := Lib.hid HB'.out
    clear HA' HRB' HB'
    go_wp2_with fail
    refine (ag_Given_no 7 1 a4 (some ⟨g, 0, none⟩) m c4 m c5 AA B _ HA.out HRB.out (by rw [KB.out, Bool.and_false])).mono ?_
    rintro e u3 ⟨rfl, hb⟩
    have HA' := Lib.hid (HA.out.below (Nat.le_refl _) hb)
    have HRB' := Lib.hid (HRB.out.below (Nat.le_refl _) hb)
    have HB' := Lib.hid (HB.out.trans (hb.mono HB.out.size))
    clear hb HA HRB HB
    have HA := Lib.hid HA'.out
    have HRB := Lib.hid HRB'.out
    have HB := Lib.hid HB'.out
    clear HA' HRB' HB'
    go_wp2_with fail
    refine (ag_Spread_no 7 1 (some ⟨g, 0, none⟩) m c5 B _ HRB.out (by rw [KB.out, Bool.and_false])).mono ?_
    rintro e u4 ⟨rfl, hb⟩
    have HA' := Lib.hid (HA.out.below (Nat.le_refl _) hb)
    have HRB' := Lib.hid (HRB.out.below (Nat.le_refl _) hb)
    have HB' := Lib.hid (HB.out.trans (hb.mono HB.out.size))
    clear hb HA HRB HB
    have HA := Lib.hid HA'.out
    have HRB := Lib.hid HRB'.out
    have HB := Lib.hid HB'.out
    clear HA' HRB' HB'
    go_wp2_with fail
    refine (ag_Lengths_no 7 1 (some ⟨g, 0, none⟩) m c5 B 0 _ HRB.out (by rw [KB.out, Bool.and_false, Bool.false_and])).mono ?_
    rintro e u5 ⟨rfl, hb⟩
    have HA' := Lib.hid (HA.out.below (Nat.le_refl _) hb)
    have HRB' := Lib.hid (HRB.out.below (Nat.le_refl _) hb)
    have HB' := Lib.hid (HB.out.trans (hb.mono HB.out.size))
    clear hb HA HRB HB
    have HA := Lib.hid HA'.out
    have HRB := Lib.hid HRB'.out
    have HB := Lib.hid HB'.out
    clear HA' HRB' HB'
    go_wp2_with fail
    refine (ag_Right (some ⟨g, 0, none⟩) m c5 B _ HRB.out).mono ?_
    rintro e u6 ⟨rfl, hb⟩
    have HA' := Lib.hid (HA.out.below (Nat.le_refl _) hb)
    have HRB' := Lib.hid (HRB.out.below (Nat.le_refl _) hb)
    have HB' := Lib.hid (HB.out.trans (hb.mono HB.out.size))
    clear hb HA HRB HB
    have HA := Lib.hid HA'.out
    have HRB := Lib.hid HRB'.out
    have HB := Lib.hid HB'.out
    clear HA' HRB' HB'
    rw [KB.out]
    go_wp2_with fail
    rw [shl_wrap]
    refine (ag_TotalNo (shl1 (52 + bit % 12)) 1 (W64.shl1 _) (shl_big bit) _).mono ?_
    rintro e w' ⟨rfl, rfl⟩
    go_wp2_with (first
      | refine wpList_max rfl (.tmp 179) (.const (.int .i64 14)) _ _ rfl n 14 rfl rfl ?_
      | refine wpList_min rfl (.tmp 185) (.const (.int .i64 (-1))) _ _ rfl n (-1) rfl rfl ?_
      | refine wpList_max rfl (.tmp 192) (.const (.int .i64 4)) _ _ rfl n 4 rfl rfl ?_
      | refine wpList_min rfl (.tmp 199) (.const (.int .i64 (-1))) _ _ rfl n (-1) rfl rfl ?_)
    refine (ag_TotalNo 7 (mx n 14) (by unfold W64; decide) (legal_mx 7 n) _).mono ?_
    rintro e w' ⟨rfl, rfl⟩
    go_wp2_with (first
      | refine wpList_max rfl (.tmp 179) (.const (.int .i64 14)) _ _ rfl n 14 rfl rfl ?_
      | refine wpList_min rfl (.tmp 185) (.const (.int .i64 (-1))) _ _ rfl n (-1) rfl rfl ?_
      | refine wpList_max rfl (.tmp 192) (.const (.int .i64 4)) _ _ rfl n 4 rfl rfl ?_
      | refine wpList_min rfl (.tmp 199) (.const (.int .i64 (-1))) _ _ rfl n (-1) rfl rfl ?_)
    refine (ag_TotalNo 7 (mn n (-1)) (by unfold W64; decide) (legal_mn 7 n) _).mono ?_
    rintro e w' ⟨rfl, rfl⟩
    go_wp2_with (first
      | refine wpList_max rfl (.tmp 179) (.const (.int .i64 14)) _ _ rfl n 14 rfl rfl ?_
      | refine wpList_min rfl (.tmp 185) (.const (.int .i64 (-1))) _ _ rfl n (-1) rfl rfl ?_
      | refine wpList_max rfl (.tmp 192) (.const (.int .i64 4)) _ _ rfl n 4 rfl rfl ?_
      | refine wpList_min rfl (.tmp 199) (.const (.int .i64 (-1))) _ _ rfl n (-1) rfl rfl ?_)
    refine (ag_Lengths_no 7 1 a4 m c4 AA (mx n 4) _ HA.out (suit_mx 7 1 AA n)).mono ?_
    rintro e u10 ⟨rfl, hb⟩
    have HA' := Lib.hid (HA.out.below (Nat.le_refl _) hb)
    have HRB' := Lib.hid (HRB.out.below (Nat.le_refl _) hb)
    have HB' := Lib.hid (HB.out.trans (hb.mono HB.out.size))
    clear hb HA HRB HB
    have HA := Lib.hid HA'.out
    have HRB := Lib.hid HRB'.out
    have HB := Lib.hid HB'.out
    clear HA' HRB' HB'
    go_wp2_with (first
      | refine wpList_max rfl (.tmp 179) (.const (.int .i64 14)) _ _ rfl n 14 rfl rfl ?_
      | refine wpList_min rfl (.tmp 185) (.const (.int .i64 (-1))) _ _ rfl n (-1) rfl rfl ?_
      | refine wpList_max rfl (.tmp 192) (.const (.int .i64 4)) _ _ rfl n 4 rfl rfl ?_
      | refine wpList_min rfl (.tmp 199) (.const (.int .i64 (-1))) _ _ rfl n (-1) rfl rfl ?_)
    refine (ag_Lengths_no 7 1 a4 m c4 AA (mn n (-1)) _ HA.out (suit_mn 7 1 AA n)).mono ?_
    rintro e u11 ⟨rfl, hb⟩
    have HA' := Lib.hid (HA.out.below (Nat.le_refl _) hb)
    have HRB' := Lib.hid (HRB.out.below (Nat.le_refl _) hb)
    have HB' := Lib.hid (HB.out.trans (hb.mono HB.out.size))
    clear hb HA HRB HB
    have HA := Lib.hid HA'.out
    have HRB := Lib.hid HRB'.out
    have HB := Lib.hid HB'.out
    clear HA' HRB' HB'
    go_wp2_with (first
      | refine wpList_max rfl (.tmp 179) (.const (.int .i64 14)) _ _ rfl n 14 rfl rfl ?_
      | refine wpList_min rfl (.tmp 185) (.const (.int .i64 (-1))) _ _ rfl n (-1) rfl rfl ?_
      | refine wpList_max rfl (.tmp 192) (.const (.int .i64 4)) _ _ rfl n 4 rfl rfl ?_
      | refine wpList_min rfl (.tmp 199) (.const (.int .i64 (-1))) _ _ rfl n (-1) rfl rfl ?_)
    refine (total_74 _).mono ?_
    rintro e w' ⟨rfl, rfl⟩
    go_wp2_with (first
      | refine wpList_max rfl (.tmp 179) (.const (.int .i64 14)) _ _ rfl n 14 rfl rfl ?_
      | refine wpList_min rfl (.tmp 185) (.const (.int .i64 (-1))) _ _ rfl n (-1) rfl rfl ?_
      | refine wpList_max rfl (.tmp 192) (.const (.int .i64 4)) _ _ rfl n 4 rfl rfl ?_
      | refine wpList_min rfl (.tmp 199) (.const (.int .i64 (-1))) _ _ rfl n (-1) rfl rfl ?_)
    refine (law40_awake _).mono ?_
    rintro e u99 ⟨rfl, hb⟩
    have HB' := Lib.hid (HB.out.trans (hb.mono HB.out.size))
    clear hb HB
    go_wp2_with fail
    go_ret
    exact ⟨rfl, HB'.out⟩
  · have hwi : (way : Int) % 6 = 4 := by omega
    obtain ⟨cur, hgb, hgr, hgs, hgc⟩ : ∃ cur, w4.heap.size ≤ g ∧ Row w5 g 39 cur ∧ m * 10 ≤ cur.size ∧ ∀ i j, i < m → j < 10 → cur[i * 10 + j]? = some (.int .i64 (cellsF AA i j)) := by
      rcases HM5.out with h0 | ⟨g', cur, hg', h1, h2, h3, h4⟩
      · omega
      · obtain rfl : g = g' := by simpa using hg'
        exact ⟨cur, h1, h2, h3, h4⟩
    have hMR : MR (w5.setRow g (putAt cur (i0 * 10 + (0)) [.int .i64 7, .int .i64 6])) w4.heap.size (some ⟨g, 0, none⟩) m (fun i j => if i = i0 ∧ j = 0 then 7 else if i = i0 ∧ j = 0 + 1 then 6 else cellsF AA i j) := MR.put hgr hgb hgs hgc hbl (by omega) (fun i j _ _ => rfl)
    rw [show i0 * 10 + (0) = i0 * 10 by omega] at hMR
    have hbel : Below w4.heap.size w4 (w5.setRow g (putAt cur (i0 * 10) [.int .i64 7, .int .i64 6])) := below_setRow HBB.out hgb _
    have HMR := Lib.hid hMR
    have HBEL := Lib.hid hbel
    have HGR := Lib.hid hgr
    have HGS := Lib.hid hgs
    clear hMR hbel hgr hgb hgs hgc
    go_wp2_with (refine wpList_store_part rfl 36 (.tmp 104) (.tmp 102) rfl g (i0 * 10) #[.int .i64 7, .int .i64 6] rfl rfl 39 cur HGR.out (by rw [size36]; rfl) (by have := HGS.out; show i0 * 10 + 2 ≤ cur.size; omega) (by simp; exact ⟨rfl, rfl⟩) ?_)
    have hbad : (Rg.ofCell ((fun i j => if i = i0 ∧ j = 0 then 7 else if i = i0 ∧ j = 0 + 1 then 6 else cellsF AA i j) i0)).ok = false := bad_pts _ (by simp [ordB])
    have hMR := HMR.out
    have hbel := HBEL.out
    generalize w5.setRow g (putAt cur (i0 * 10) [.int .i64 7, .int .i64 6]) = wx at *
    clear HMR HBEL HGR HGS hwi hw6
    obtain ⟨B, hBl, hRB, hBi⟩ := hMR.list (by omega)
    have KB : Hid (rightV B = false) := Lib.hid (right_bad (hBi i0 hbl) hbad)
    have HB := Lib.hid (HB4.out.trans (hbel.mono HB4.out.size))
    have HA := Lib.hid (HR4.out.below (Nat.le_refl _) hbel)
    have HRB := Lib.hid hRB
    clear hBl hRB hBi hbad hMR hbel HR4 HB4 HM5 HBB HB2 hbl hil hbm hmz
    have hb52 : ((52 : Int) + (bit : Int) % 12) = ((52 + bit % 12 : Nat) : Int) := by omega
    clear hb52
    go_wp2_with fail
    refine (ag_CountNo 7 1 _ m c5 B KB.out _ HRB.out).mono ?_
    rintro e u0 ⟨rfl, hb⟩
    have HA' := Lib.hid (HA.out.below (Nat.le_refl _) hb)
    have HRB' := Lib.hid (HRB.out.below (Nat.le_refl _) hb)
    have HB' := Lib.hid (HB.out.trans (hb.mono HB.out.size))
    clear hb HA HRB HB
    have HA := Lib.hid HA'.out
    have HRB := Lib.hid HRB'.out
    have HB := Lib.hid HB'.out
    clear HA' HRB' HB'
    go_wp2_with fail
    refine (ag_Both_no (some ⟨g, 0, none⟩) a4 m c5 m c4 B AA _ HRB.out HA.out (by rw [KB.out]; rfl)).mono ?_
    rintro e u1 ⟨rfl, hb⟩
    have HA' := Lib.hid (HA.out.below (Nat.le_refl _) hb)
    have HRB' := Lib.hid (HRB.out.below (Nat.le_refl _) hb)
    have HB' := Lib.hid (HB.out.trans (hb.mono HB.out.size))
    clear hb HA HRB HB
    have HA := Lib.hid HA'.out
    have HRB := Lib.hid HRB'.out
    have HB := Lib.hid HB'.out
    clear HA' HRB' HB'
    go_wp2_with fail
    refine (ag_Both_no a4 (some ⟨g, 0, none⟩) m c4 m c5 AA B _ HA.out HRB.out (by rw [KB.out, Bool.and_false])).mono ?_
    rintro e u2 ⟨rfl, hb⟩
    have HA' := Lib.hid (HA.out.below (Nat.le_refl _) hb)
    have HRB' := Lib.hid (HRB.out.below (Nat.le_refl _) hb)
    have HB' := Lib.hid (HB.out.trans (hb.mono HB.out.size))
    clear hb HA HRB HB
    have HA := Lib.hid HA'.out
    have HRB := Lib.hid HRB'.out
    have HB := Lib.hid HB'.out
    clear HA' HRB' HB'
    go_wp2_with fail
    refine (ag_Given_no 7 1 a4 (some ⟨g, 0, none⟩) m c4 m c5 AA B _ HA.out HRB.out (by rw [KB.out, Bool.and_false])).mono ?_
    rintro e u3 ⟨rfl, hb⟩
    have HA' := Lib.hid (HA.out.below (Nat.le_refl _) hb)
    have HRB' := Lib.hid (HRB.out.below (Nat.le_refl _) hb)
    have HB' := Lib.hid (HB.out.trans (hb.mono HB.out.size))
    clear hb HA HRB HB
    have HA := Lib.hid HA'.out
    have HRB := Lib.hid HRB'.out
    have HB := Lib.hid HB'.out
    clear HA' HRB' HB'
    go_wp2_with fail
    refine (ag_Spread_no 7 1 (some ⟨g, 0, none⟩) m c5 B _ HRB.out (by rw [KB.out, Bool.and_false])).mono ?_
    rintro e u4 ⟨rfl, hb⟩
    have HA' := Lib.hid (HA.out.below (Nat.le_refl _) hb)
    have HRB' := Lib.hid (HRB.out.below (Nat.le_refl _) hb)
    have HB' := Lib.hid (HB.out.trans (hb.mono HB.out.size))
    clear hb HA HRB HB
    have HA := Lib.hid HA'.out
    have HRB := Lib.hid HRB'.out
    have HB := Lib.hid HB'.out
    clear HA' HRB' HB'
    go_wp2_with fail
    refine (ag_Lengths_no 7 1 (some ⟨g, 0, none⟩) m c5 B 0 _ HRB.out (by rw [KB.out, Bool.and_false, Bool.false_and])).mono ?_
    rintro e u5 ⟨rfl, hb⟩
    have HA' := Lib.hid (HA.out.below (Nat.le_refl _) hb)
    have HRB' := Lib.hid (HRB.out.below (Nat.le_refl _) hb)
    have HB' := Lib.hid (HB.out.trans (hb.mono HB.out.size))
    clear hb HA HRB HB
    have HA := Lib.hid HA'.out
    have HRB := Lib.hid HRB'.out
    have HB := Lib.hid HB'.out
    clear HA' HRB' HB'
    go_wp2_with fail
    refine (ag_Right (some ⟨g, 0, none⟩) m c5 B _ HRB.out).mono ?_
    rintro e u6 ⟨rfl, hb⟩
    have HA' := Lib.hid (HA.out.below (Nat.le_refl _) hb)
    have HRB' := Lib.hid (HRB.out.below (Nat.le_refl _) hb)
    have HB' := Lib.hid (HB.out.trans (hb.mono HB.out.size))
    clear hb HA HRB HB
    have HA := Lib.hid HA'.out
    have HRB := Lib.hid HRB'.out
    have HB := Lib.hid HB'.out
    clear HA' HRB' HB'
    rw [KB.out]
    go_wp2_with fail
    rw [shl_wrap]
    refine (ag_TotalNo (shl1 (52 + bit % 12)) 1 (W64.shl1 _) (shl_big bit) _).mono ?_
    rintro e w' ⟨rfl, rfl⟩
    go_wp2_with (first
      | refine wpList_max rfl (.tmp 179) (.const (.int .i64 14)) _ _ rfl n 14 rfl rfl ?_
      | refine wpList_min rfl (.tmp 185) (.const (.int .i64 (-1))) _ _ rfl n (-1) rfl rfl ?_
      | refine wpList_max rfl (.tmp 192) (.const (.int .i64 4)) _ _ rfl n 4 rfl rfl ?_
      | refine wpList_min rfl (.tmp 199) (.const (.int .i64 (-1))) _ _ rfl n (-1) rfl rfl ?_)
    refine (ag_TotalNo 7 (mx n 14) (by unfold W64; decide) (legal_mx 7 n) _).mono ?_
    rintro e w' ⟨rfl, rfl⟩
    go_wp2_with (first
      | refine wpList_max rfl (.tmp 179) (.const (.int .i64 14)) _ _ rfl n 14 rfl rfl ?_
      | refine wpList_min rfl (.tmp 185) (.const (.int .i64 (-1))) _ _ rfl n (-1) rfl rfl ?_
      | refine wpList_max rfl (.tmp 192) (.const (.int .i64 4)) _ _ rfl n 4 rfl rfl ?_
      | refine wpList_min rfl (.tmp 199) (.const (.int .i64 (-1))) _ _ rfl n (-1) rfl rfl ?_)
    refine (ag_TotalNo 7 (mn n (-1)) (by unfold W64; decide) (legal_mn 7 n) _).mono ?_
    rintro e w' ⟨rfl, rfl⟩
    go_wp2_with (first
      | refine wpList_max rfl (.tmp 179) (.const (.int .i64 14)) _ _ rfl n 14 rfl rfl ?_
      | refine wpList_min rfl (.tmp 185) (.const (.int .i64 (-1))) _ _ rfl n (-1) rfl rfl ?_
      | refine wpList_max rfl (.tmp 192) (.const (.int .i64 4)) _ _ rfl n 4 rfl rfl ?_
      | refine wpList_min rfl (.tmp 199) (.const (.int .i64 (-1))) _ _ rfl n (-1) rfl rfl ?_)
    refine (ag_Lengths_no 7 1 a4 m c4 AA (mx n 4) _ HA.out (suit_mx 7 1 AA n)).mono ?_
    rintro e u10 ⟨rfl, hb⟩
    have HA' := Lib.hid (HA.out.below (Nat.le_refl _) hb)
    have HRB' := Lib.hid (HRB.out.below (Nat.le_refl _) hb)
    have HB' := Lib.hid (HB.out.trans (hb.mono HB.out.size))
    clear hb HA HRB HB
    have HA := Lib.hid HA'.out
    have HRB := Lib.hid HRB'.out
    have HB := Lib.hid HB'.out
    clear HA' HRB' HB'
    go_wp2_with (first
      | refine wpList_max rfl (.tmp 179) (.const (.int .i64 14)) _ _ rfl n 14 rfl rfl ?_
      | refine wpList_min rfl (.tmp 185) (.const (.int .i64 (-1))) _ _ rfl n (-1) rfl rfl ?_
      | refine wpList_max rfl (.tmp 192) (.const (.int .i64 4)) _ _ rfl n 4 rfl rfl ?_
      | refine wpList_min rfl (.tmp 199) (.const (.int .i64 (-1))) _ _ rfl n (-1) rfl rfl ?_)
    refine (ag_Lengths_no 7 1 a4 m c4 AA (mn n (-1)) _ HA.out (suit_mn 7 1 AA n)).mono ?_
    rintro e u11 ⟨rfl, hb⟩
    have HA' := Lib.hid (HA.out.below (Nat.le_refl _) hb)
    have HRB' := Lib.hid (HRB.out.below (Nat.le_refl _) hb)
    have HB' := Lib.hid (HB.out.trans (hb.mono HB.out.size))
    clear hb HA HRB HB
    have HA := Lib.hid HA'.out
    have HRB := Lib.hid HRB'.out
    have HB := Lib.hid HB'.out
    clear HA' HRB' HB'
    go_wp2_with (first
      | refine wpList_max rfl (.tmp 179) (.const (.int .i64 14)) _ _ rfl n 14 rfl rfl ?_
      | refine wpList_min rfl (.tmp 185) (.const (.int .i64 (-1))) _ _ rfl n (-1) rfl rfl ?_
      | refine wpList_max rfl (.tmp 192) (.const (.int .i64 4)) _ _ rfl n 4 rfl rfl ?_
      | refine wpList_min rfl (.tmp 199) (.const (.int .i64 (-1))) _ _ rfl n (-1) rfl rfl ?_)
    refine (total_74 _).mono ?_
    rintro e w' ⟨rfl, rfl⟩
    go_wp2_with (first
      | refine wpList_max rfl (.tmp 179) (.const (.int .i64 14)) _ _ rfl n 14 rfl rfl ?_
      | refine wpList_min rfl (.tmp 185) (.const (.int .i64 (-1))) _ _ rfl n (-1) rfl rfl ?_
      | refine wpList_max rfl (.tmp 192) (.const (.int .i64 4)) _ _ rfl n 4 rfl rfl ?_
      | refine wpList_min rfl (.tmp 199) (.const (.int .i64 (-1))) _ _ rfl n (-1) rfl rfl ?_)
    refine (law40_awake _).mono ?_
    rintro e u99 ⟨rfl, hb⟩
    have HB' := Lib.hid (HB.out.trans (hb.mono HB.out.size))
    clear hb HB
    go_wp2_with fail
    go_ret
    exact ⟨rfl, HB'.out⟩
  · have hwi : (way : Int) % 6 = 5 := by omega
    obtain ⟨q, HQ⟩ : ∃ q, Hid (bit % 4 = q) := ⟨_, Lib.hid rfl⟩
    have hq4 : q < 4 := by have := HQ.out; omega
    have hqi : (bit : Int) % 4 = (q : Int) := by have := HQ.out; omega
    have hq4i : (q : Int) < 4 := by omega
    obtain ⟨cur, hgb, hgr, hgs, hgc⟩ : ∃ cur, w4.heap.size ≤ g ∧ Row w5 g 39 cur ∧ m * 10 ≤ cur.size ∧ ∀ i j, i < m → j < 10 → cur[i * 10 + j]? = some (.int .i64 (cellsF AA i j)) := by
      rcases HM5.out with h0 | ⟨g', cur, hg', h1, h2, h3, h4⟩
      · omega
      · obtain rfl : g = g' := by simpa using hg'
        exact ⟨cur, h1, h2, h3, h4⟩
    have hMR : MR (w5.setRow g (putAt cur (i0 * 10 + (2 + q * 2)) [.int .i64 5, .int .i64 4])) w4.heap.size (some ⟨g, 0, none⟩) m (fun i j => if i = i0 ∧ j = 2 + q * 2 then 5 else if i = i0 ∧ j = 2 + q * 2 + 1 then 4 else cellsF AA i j) := MR.put hgr hgb hgs hgc hbl (by omega) (fun i j _ _ => rfl)
    rw [show i0 * 10 + (2 + q * 2) = i0 * 10 + 2 + q * 2 by omega] at hMR
    have hbel : Below w4.heap.size w4 (w5.setRow g (putAt cur (i0 * 10 + 2 + q * 2) [.int .i64 5, .int .i64 4])) := below_setRow HBB.out hgb _
    have HMR := Lib.hid hMR
    have HBEL := Lib.hid hbel
    have HGR := Lib.hid hgr
    have HGS := Lib.hid hgs
    clear hMR hbel hgr hgb hgs hgc
    go_wp2_with (refine wpList_store_part rfl 36 (.tmp 60) (.tmp 57) rfl g (i0 * 10 + 2 + q * 2) #[.int .i64 5, .int .i64 4] rfl rfl 39 cur HGR.out (by rw [size36]; rfl) (by have := HGS.out; show i0 * 10 + 2 + q * 2 + 2 ≤ cur.size; omega) (by simp; exact ⟨rfl, rfl⟩) ?_)
    have hbad : (Rg.ofCell ((fun i j => if i = i0 ∧ j = 2 + q * 2 then 5 else if i = i0 ∧ j = 2 + q * 2 + 1 then 4 else cellsF AA i j) i0)).ok = false := bad_suit _ q hq4 (by simp [ordB])
    have hMR := HMR.out
    have hbel := HBEL.out
    generalize w5.setRow g (putAt cur (i0 * 10 + 2 + q * 2) [.int .i64 5, .int .i64 4]) = wx at *
    clear HMR HBEL HGR HGS hwi hw6
    obtain ⟨B, hBl, hRB, hBi⟩ := hMR.list (by omega)
    have KB : Hid (rightV B = false) := Lib.hid (right_bad (hBi i0 hbl) hbad)
    have HB := Lib.hid (HB4.out.trans (hbel.mono HB4.out.size))
    have HA := Lib.hid (HR4.out.below (Nat.le_refl _) hbel)
    have HRB := Lib.hid hRB
    clear hBl hRB hBi hbad hMR hbel HR4 HB4 HM5 HBB HB2 hbl hil hbm hmz
    have hb52 : ((52 : Int) + (bit : Int) % 12) = ((52 + bit % 12 : Nat) : Int) := by omega
    clear hb52
    go_wp2_with fail
    refine (ag_CountNo 7 1 _ m c5 B KB.out _ HRB.out).mono ?_
    rintro e u0 ⟨rfl, hb⟩
    have HA' := Lib.hid (HA.out.below (Nat.le_refl _) hb)
    have HRB' := Lib.hid (HRB.out.below (Nat.le_refl _) hb)
    have HB' := Lib.hid (HB.out.trans (hb.mono HB.out.size))
    clear hb HA HRB HB
    have HA := Lib.hid HA'.out
    have HRB := Lib.hid HRB'.out
    have HB := Lib.hid HB'.out
    clear HA' HRB' HB'
    go_wp2_with fail
    refine (ag_Both_no (some ⟨g, 0, none⟩) a4 m c5 m c4 B AA _ HRB.out HA.out (by rw [KB.out]; rfl)).mono ?_
    rintro e u1 ⟨rfl, hb⟩
    have HA' := Lib.hid (HA.out.below (Nat.le_refl _) hb)
    have HRB' := Lib.hid (HRB.out.below (Nat.le_refl _) hb)
    have HB' := Lib.hid (HB.out.trans (hb.mono HB.out.size))
    clear hb HA HRB HB
    have HA := Lib.hid HA'.out
    have HRB := Lib.hid HRB'.out
    have HB := Lib.hid HB'.out
    clear HA' HRB' HB'
    go_wp2_with fail
    refine (ag_Both_no a4 (some ⟨g, 0, none⟩) m c4 m c5 AA B _ HA.out HRB.out (by rw [KB.out, Bool.and_false])).mono ?_
    rintro e u2 ⟨rfl, hb⟩
    have HA' := Lib.hid (HA.out.below (Nat.le_refl _) hb)
    have HRB' := Lib.hid (HRB.out.below (Nat.le_refl _) hb)
    have HB' := Lib.hid (HB.out.trans (hb.mono HB.out.size))
    clear hb HA HRB HB
    have HA := Lib.hid HA'.out
    have HRB := Lib.hid HRB'.out
    have HB := Lib.hid HB'.out
    clear HA' HRB' HB'
    go_wp2_with fail
    refine (ag_Given_no 7 1 a4 (some ⟨g, 0, none⟩) m c4 m c5 AA B _ HA.out HRB.out (by rw [KB.out, Bool.and_false])).mono ?_
    rintro e u3 ⟨rfl, hb⟩
    have HA' := Lib.hid (HA.out.below (Nat.le_refl _) hb)
    have HRB' := Lib.hid (HRB.out.below (Nat.le_refl _) hb)
    have HB' := Lib.hid (HB.out.trans (hb.mono HB.out.size))
    clear hb HA HRB HB
    have HA := Lib.hid HA'.out
    have HRB := Lib.hid HRB'.out
    have HB := Lib.hid HB'.out
    clear HA' HRB' HB'
    go_wp2_with fail
    refine (ag_Spread_no 7 1 (some ⟨g, 0, none⟩) m c5 B _ HRB.out (by rw [KB.out, Bool.and_false])).mono ?_
    rintro e u4 ⟨rfl, hb⟩
    have HA' := Lib.hid (HA.out.below (Nat.le_refl _) hb)
    have HRB' := Lib.hid (HRB.out.below (Nat.le_refl _) hb)
    have HB' := Lib.hid (HB.out.trans (hb.mono HB.out.size))
    clear hb HA HRB HB
    have HA := Lib.hid HA'.out
    have HRB := Lib.hid HRB'.out
    have HB := Lib.hid HB'.out
    clear HA' HRB' HB'
    go_wp2_with fail
    refine (ag_Lengths_no 7 1 (some ⟨g, 0, none⟩) m c5 B 0 _ HRB.out (by rw [KB.out, Bool.and_false, Bool.false_and])).mono ?_
    rintro e u5 ⟨rfl, hb⟩
    have HA' := Lib.hid (HA.out.below (Nat.le_refl _) hb)
    have HRB' := Lib.hid (HRB.out.below (Nat.le_refl _) hb)
    have HB' := Lib.hid (HB.out.trans (hb.mono HB.out.size))
    clear hb HA HRB HB
    have HA := Lib.hid HA'.out
    have HRB := Lib.hid HRB'.out
    have HB := Lib.hid HB'.out
    clear HA' HRB' HB'
    go_wp2_with fail
    refine (ag_Right (some ⟨g, 0, none⟩) m c5 B _ HRB.out).mono ?_
    rintro e u6 ⟨rfl, hb⟩
    have HA' := Lib.hid (HA.out.below (Nat.le_refl _) hb)
    have HRB' := Lib.hid (HRB.out.below (Nat.le_refl _) hb)
    have HB' := Lib.hid (HB.out.trans (hb.mono HB.out.size))
    clear hb HA HRB HB
    have HA := Lib.hid HA'.out
    have HRB := Lib.hid HRB'.out
    have HB := Lib.hid HB'.out
    clear HA' HRB' HB'
    rw [KB.out]
    go_wp2_with fail
    rw [shl_wrap]
    refine (ag_TotalNo (shl1 (52 + bit % 12)) 1 (W64.shl1 _) (shl_big bit) _).mono ?_
    rintro e w' ⟨rfl, rfl⟩
    go_wp2_with (first
      | refine wpList_max rfl (.tmp 179) (.const (.int .i64 14)) _ _ rfl n 14 rfl rfl ?_
      | refine wpList_min rfl (.tmp 185) (.const (.int .i64 (-1))) _ _ rfl n (-1) rfl rfl ?_
      | refine wpList_max rfl (.tmp 192) (.const (.int .i64 4)) _ _ rfl n 4 rfl rfl ?_
      | refine wpList_min rfl (.tmp 199) (.const (.int .i64 (-1))) _ _ rfl n (-1) rfl rfl ?_)
    refine (ag_TotalNo 7 (mx n 14) (by unfold W64; decide) (legal_mx 7 n) _).mono ?_
    rintro e w' ⟨rfl, rfl⟩
    go_wp2_with (first
      | refine wpList_max rfl (.tmp 179) (.const (.int .i64 14)) _ _ rfl n 14 rfl rfl ?_
      | refine wpList_min rfl (.tmp 185) (.const (.int .i64 (-1))) _ _ rfl n (-1) rfl rfl ?_
      | refine wpList_max rfl (.tmp 192) (.const (.int .i64 4)) _ _ rfl n 4 rfl rfl ?_
      | refine wpList_min rfl (.tmp 199) (.const (.int .i64 (-1))) _ _ rfl n (-1) rfl rfl ?_)
    refine (ag_TotalNo 7 (mn n (-1)) (by unfold W64; decide) (legal_mn 7 n) _).mono ?_
    rintro e w' ⟨rfl, rfl⟩
    go_wp2_with (first
      | refine wpList_max rfl (.tmp 179) (.const (.int .i64 14)) _ _ rfl n 14 rfl rfl ?_
      | refine wpList_min rfl (.tmp 185) (.const (.int .i64 (-1))) _ _ rfl n (-1) rfl rfl ?_
      | refine wpList_max rfl (.tmp 192) (.const (.int .i64 4)) _ _ rfl n 4 rfl rfl ?_
      | refine wpList_min rfl (.tmp 199) (.const (.int .i64 (-1))) _ _ rfl n (-1) rfl rfl ?_)
    refine (ag_Lengths_no 7 1 a4 m c4 AA (mx n 4) _ HA.out (suit_mx 7 1 AA n)).mono ?_
    rintro e u10 ⟨rfl, hb⟩
    have HA' := Lib.hid (HA.out.below (Nat.le_refl _) hb)
    have HRB' := Lib.hid (HRB.out.below (Nat.le_refl _) hb)
    have HB' := Lib.hid (HB.out.trans (hb.mono HB.out.size))
    clear hb HA HRB HB
    have HA := Lib.hid HA'.out
    have HRB := Lib.hid HRB'.out
    have HB := Lib.hid HB'.out
    clear HA' HRB' HB'
    go_wp2_with (first
      | refine wpList_max rfl (.tmp 179) (.const (.int .i64 14)) _ _ rfl n 14 rfl rfl ?_
      | refine wpList_min rfl (.tmp 185) (.const (.int .i64 (-1))) _ _ rfl n (-1) rfl rfl ?_
      | refine wpList_max rfl (.tmp 192) (.const (.int .i64 4)) _ _ rfl n 4 rfl rfl ?_
      | refine wpList_min rfl (.tmp 199) (.const (.int .i64 (-1))) _ _ rfl n (-1) rfl rfl ?_)
    refine (ag_Lengths_no 7 1 a4 m c4 AA (mn n (-1)) _ HA.out (suit_mn 7 1 AA n)).mono ?_
    rintro e u11 ⟨rfl, hb⟩
    have HA' := Lib.hid (HA.out.below (Nat.le_refl _) hb)
    have HRB' := Lib.hid (HRB.out.below (Nat.le_refl _) hb)
    have HB' := Lib.hid (HB.out.trans (hb.mono HB.out.size))
    clear hb HA HRB HB
    have HA := Lib.hid HA'.out
    have HRB := Lib.hid HRB'.out
    have HB := Lib.hid HB'.out
    clear HA' HRB' HB'
    go_wp2_with (first
      | refine wpList_max rfl (.tmp 179) (.const (.int .i64 14)) _ _ rfl n 14 rfl rfl ?_
      | refine wpList_min rfl (.tmp 185) (.const (.int .i64 (-1))) _ _ rfl n (-1) rfl rfl ?_
      | refine wpList_max rfl (.tmp 192) (.const (.int .i64 4)) _ _ rfl n 4 rfl rfl ?_
      | refine wpList_min rfl (.tmp 199) (.const (.int .i64 (-1))) _ _ rfl n (-1) rfl rfl ?_)
    refine (total_74 _).mono ?_
    rintro e w' ⟨rfl, rfl⟩
    go_wp2_with (first
      | refine wpList_max rfl (.tmp 179) (.const (.int .i64 14)) _ _ rfl n 14 rfl rfl ?_
      | refine wpList_min rfl (.tmp 185) (.const (.int .i64 (-1))) _ _ rfl n (-1) rfl rfl ?_
      | refine wpList_max rfl (.tmp 192) (.const (.int .i64 4)) _ _ rfl n 4 rfl rfl ?_
      | refine wpList_min rfl (.tmp 199) (.const (.int .i64 (-1))) _ _ rfl n (-1) rfl rfl ?_)
    refine (law40_awake _).mono ?_
    rintro e u99 ⟨rfl, hb⟩
    have HB' := Lib.hid (HB.out.trans (hb.mono HB.out.size))
    clear hb HB
    go_wp2_with fail
    go_ret
    exact ⟨rfl, HB'.out⟩
end Go.Proofs.Ytmkplfndbjcflaa
