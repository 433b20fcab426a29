/- SgD, SgE in one text. -/
import Derived.Test.YtikdkhiehfccpaaSgC
import Derived.Test.YtikdkhiehfccpaaRgK0

/- Contracts of signal.Counts over this seat's program. -/
namespace Go.Proofs.Ytikdkhiehfccpaa
open Go.RowKit Go.Sort Go.Shelf Cnt

/-- the counts so far -/
def cnK (f : Nat → Nat) (k : Nat) : Nat → Nat := fun j => if j < k then f j else 0
theorem cnK_zero (f : Nat → Nat) (n : Nat) : tab n (fun _ => 0) = tab n (cnK f 0) := tab_congr fun j _ => by unfold cnK; rw [if_neg (by omega)]
theorem cnK_all (f : Nat → Nat) (n : Nat) : tab n (cnK f n) = tab n f := tab_congr fun j hj => by unfold cnK; rw [if_pos hj]
theorem tab_put (n : Nat) (f g : Nat → Nat) (i v : Nat) (h : ∀ j, j < n → g j = if j = i then v else f j) : (tab n f).setIfInBounds i (.int .i64 ((v : Nat) : Int)) = tab n g := by
  apply Array.ext_getElem?
  intro j
  rw [Array.getElem?_setIfInBounds]
  by_cases hj : j < n
  · rw [tab_get n g j hj, h j hj]
    by_cases e : i = j
    · subst e
      simp [hj]
    · have e' : ¬ j = i := fun h => e h.symm
      rw [if_neg e, tab_get n f j hj, if_neg e']
  · have h1 : (tab n f)[j]? = none := Array.getElem?_eq_none (by rw [tab_size]; omega)
    have h2 : (tab n g)[j]? = none := Array.getElem?_eq_none (by rw [tab_size]; omega)
    rw [h1, h2, tab_size]
    split
    · rw [if_neg (by omega)]
    · rfl
theorem cnK_put (f : Nat → Nat) (n k : Nat) : (tab n (cnK f k)).setIfInBounds k (.int .i64 ((f k : Nat) : Int)) = tab n (cnK f (k + 1)) := tab_put _ _ _ _ _ fun j _ => by
  unfold cnK
  by_cases e : j = k
  · subst e; rw [if_pos (by omega), if_pos rfl]
  · rw [if_neg e]
    by_cases h : j < k
    · rw [if_pos h, if_pos (by omega)]
    · rw [if_neg h, if_neg (by omega)]
/-- how many hands give each signal -/
def cnV (left : Nat) (n : Int) (ls : List Rl) : Nat → Nat := fun j => gvC (deck left) n.toNat QT ls (j : Int)
set_option maxHeartbeats 1000000 in
theorem sg_Counts_yes (left nn : Nat) (hl : left < 4503599627370496) (hn : nn ≤ 13) (a : Option Addr) (la ca : Nat) (ls : List Rl) (w : World) (ha : Rls w a la ls) (hok : rightS ls = true) :
    Calls Try.prog 21 #[.int .u64 (left : Int), .int .i64 (nn : Int), .slice a la ca] w fun e w' =>
      (∃ b, e = .returned (.tuple #[.slice (some ⟨b, 0, none⟩) 10 10, .int .i64 0]) ∧ w.heap.size ≤ b ∧ Row w' b 3 (tab 10 (cnV left (nn : Int) ls))) ∧ Below w.heap.size w w' := by
  have HA := Lib.hid ha
  have HOK := Lib.hid hok
  have HL := Lib.hid hl
  have HN := Lib.hid hn
  have hlg : lgOk left (nn : Int) ls = true := by unfold lgOk legalB; rw [hok]; simp; omega
  have hW : W64 left := by unfold W64; omega
  have HLG := Lib.hid fun w' h => sg_legal left (nn : Int) a la ca ls hW w' h
  have htot : lgV left (nn : Int) ls = cntF (deck left) nn QT := by
    unfold lgV
    rw [hlg, if_pos rfl, cnt_true, deck_pop hl]; rfl
  rw [hlg, htot] at HLG
  have HTB := Lib.hid (gv_le left nn QT)
  obtain ⟨T, HT⟩ : ∃ x, Hid (cntF (deck left) nn QT = x) := ⟨_, Lib.hid rfl⟩
  rw [HT.out] at HLG HTB
  clear ha hok hl hn hlg hW htot
  go_enter Try.func21, Try.ntmps21
  go_wp2_with fail
  refine (HLG.out _ HA.out).mono ?_
  rintro e w1 ⟨rfl, hb1⟩
  have HB1 := Lib.hid hb1
  clear hb1
  have hmk : ∀ w1 : World, (Instr.makeSlice 64 (.int .i64 10) (.int .i64 10)).run Try.prog w1 = .ok (.slice (some ⟨w1.heap.size, 0, none⟩) 10 10) (w1.alloc (.cells (tab 10 fun _ => 0) 3)) := make_ints 10 (by decide)
  simp only [show okE true = 0 from rfl]
  go_wp2_with fail
  refine (sg_counter left (nn : Int) _).mono ?_
  rintro e w2 ⟨rfl, rfl⟩
  have hb2 : Below w1.heap.size w1 (((w1.alloc (.cells (tab 10 fun _ => 0) 3)).alloc (.cells #[.int .u64 (left : Int)] 22)).alloc (.cells #[.int .i64 (nn : Int)] 3)) := (((Below.refl _ _).alloc (Nat.le_refl _) _).alloc (by simp) _).alloc (by simp; omega) _
  have hr0 : Row (((w1.alloc (.cells (tab 10 fun _ => 0) 3)).alloc (.cells #[.int .u64 (left : Int)] 22)).alloc (.cells #[.int .i64 (nn : Int)] 3)) w1.heap.size 3 (tab 10 (cnK (cnV left (nn : Int) ls) 0)) := by
    rw [← cnK_zero]; exact ((Row.new _ _ _).alloc _).alloc _
  have hr1 : Row (((w1.alloc (.cells (tab 10 fun _ => 0) 3)).alloc (.cells #[.int .u64 (left : Int)] 22)).alloc (.cells #[.int .i64 (nn : Int)] 3)) (w1.heap.size + 1) 22 #[.int .u64 (left : Int)] := (Row.new1 _ _ _ _).alloc _
  have hr2 : Row (((w1.alloc (.cells (tab 10 fun _ => 0) 3)).alloc (.cells #[.int .u64 (left : Int)] 22)).alloc (.cells #[.int .i64 (nn : Int)] 3)) (w1.heap.size + 1 + 1) 3 #[.int .i64 (nn : Int)] := Row.new2 _ _ _ _ _
  simp only [World.size_alloc]
  have HB2 := Lib.hid (HB1.out.trans (hb2.mono HB1.out.size))
  have HR0 := Lib.hid hr0
  have HR1 := Lib.hid hr1
  have HR2 := Lib.hid hr2
  have HSZ := Lib.hid HB1.out.size
  clear hb2 hr0 hr1 hr2 HB1 hmk HLG
  generalize (((w1.alloc (.cells (tab 10 fun _ => 0) 3)).alloc (.cells #[.int .u64 (left : Int)] 22)).alloc (.cells #[.int .i64 (nn : Int)] 3)) = W2 at *
  generalize w1.heap.size = b1 at *
  go_wp2_with fail
  go_loopw [12, 29] (fun _ i wr => ∃ (k : Nat), k ≤ 10 ∧ i = .int .i64 (k : Int) ∧ Below w.heap.size w wr ∧ Row wr b1 3 (tab 10 (cnK (cnV left (nn : Int) ls) k)) ∧ Row wr (b1 + 1) 22 #[.int .u64 (left : Int)] ∧ Row wr (b1 + 1 + 1) 3 #[.int .i64 (nn : Int)]) (fun _ i _ => 10 - (intOf i).toNat)
  case atStart => exact ⟨0, by omega, rfl, HB2.out, HR0.out, HR1.out, HR2.out⟩
  case round =>
    clear HB2 HR0 HR1 HR2
    obtain ⟨k, hk, rfl, hB, h0, h1, h2⟩ := hrel
    by_cases hlt : k < 10
    · have hd : decide ((k : Int) < 10) = true := by simp; omega
      have hki : (k : Int) < 10 := by omega
      have HB := Lib.hid hB
      have H0 := Lib.hid h0
      have H1 := Lib.hid h1
      have H2 := Lib.hid h2
      have HPUT := Lib.hid (cnK_put (cnV left (nn : Int) ls) 10 k)
      clear hB h0 h1 h2
      go_wp2_with fail
      refine (sg_givesC (deck left) nn QT (gv_le left nn) (b1 + 1) (b1 + 1 + 1) a la ca ls (k : Int) T HTB.out (fun _ => HT.out.symm) _ (HA.out.below (Nat.le_refl _) HB.out) HOK.out (fun W hW ad m c rs hr hk => sg_counter1 left nn HL.out HN.out (b1 + 1) (b1 + 1 + 1) ad m c rs W (H1.out.later hW) (H2.out.later hW) hr hk)).mono ?_
      rintro e w3 ⟨rfl, hb3⟩
      have hr3 := H0.out.later hb3
      have hf3 := hr3.frozen k
      have HS := Lib.hid ((HB.out.trans (hb3.mono HB.out.size)).setCell (p := ⟨b1, k, none⟩) HSZ.out (.int .i64 ((cnV left (nn : Int) ls k : Nat) : Int)))
      have HRS : Hid (Row (w3.setCell ⟨b1, k, none⟩ (.int .i64 ((cnV left (nn : Int) ls k : Nat) : Int))) b1 3 (tab 10 (cnK (cnV left (nn : Int) ls) (k + 1)))) := Lib.hid (by rw [← HPUT.out]; exact hr3.set k _)
      have HR4 := Lib.hid ((H1.out.later hb3).other (i := k) (v := .int .i64 ((cnV left (nn : Int) ls k : Nat) : Int)) (show b1 + 1 ≠ b1 by omega))
      have HR5 := Lib.hid ((H2.out.later hb3).other (i := k) (v := .int .i64 ((cnV left (nn : Int) ls k : Nat) : Int)) (show b1 + 1 + 1 ≠ b1 by omega))
      have hc3 := (hr3.cell k).trans (tab_get 10 _ k hlt)
      have HV : Hid (gvC (deck left) nn QT ls (k : Int) = cnV left (nn : Int) ls k) := Lib.hid rfl
      rw [HV.out]
      generalize cnV left (nn : Int) ls k = vk at *
      clear hb3 HB H0 H1 H2 hr3
      go_wp2_with fail
      exact ⟨⟨k + 1, by omega, by simp, HS.out, HRS.out, HR4.out, HR5.out⟩, by simp [intOf]; omega⟩
    · obtain rfl : k = 10 := by omega
      simp only [show ((10 : Nat) : Int) = 10 from rfl]
      have HR : Hid (Row wr b1 3 (tab 10 (cnV left (nn : Int) ls))) := Lib.hid (by rw [← cnK_all]; exact h0)
      have HB := Lib.hid hB
      clear hB h0 h1 h2
      go_wp2_with fail
      go_ret2
      exact ⟨⟨b1, rfl, HSZ.out, HR.out⟩, HB.out⟩
end Go.Proofs.Ytikdkhiehfccpaa

/- Contracts of signal.Counts for all arguments, and of signal.Told over this seat's program. -/
namespace Go.Proofs.Ytikdkhiehfccpaa
open Go.RowKit Go.Sort Go.Shelf Cnt

theorem sg_Counts_no (left : Nat) (n : Int) (a : Option Addr) (la ca : Nat) (ls : List Rl) (hleft : W64 left) (w : World) (ha : Rls w a la ls) (hno : lgOk left n ls = false) :
    Calls Try.prog 21 #[.int .u64 (left : Int), .int .i64 n, .slice a la ca] w fun e w' => e = .returned (.tuple #[.slice none 0 0, .int .i64 2]) ∧ Below w.heap.size w w' := by
  have HA := Lib.hid ha
  have HLG := Lib.hid fun w' h => sg_legal left n a la ca ls hleft w' h
  rw [hno] at HLG
  clear ha hleft
  go_enter Try.func21, Try.ntmps21
  go_wp2_with fail
  refine (HLG.out _ HA.out).mono ?_
  rintro e w1 ⟨rfl, hb1⟩
  have HB1 := Lib.hid hb1
  clear hb1
  simp only [show okE false = 2 from rfl]
  go_wp2_with fail
  go_ret2
  exact ⟨rfl, HB1.out⟩
theorem lg_parts {left : Nat} {n : Int} {ls : List Rl} (h : lgOk left n ls = true) : ∃ nn : Nat, n = (nn : Int) ∧ nn ≤ 13 ∧ left < 4503599627370496 ∧ rightS ls = true := by
  unfold lgOk legalB at h
  simp only [Bool.and_eq_true, decide_eq_true_eq] at h
  exact ⟨n.toNat, by omega, by omega, h.1.2, h.2⟩
theorem sg_CountsV (left : Nat) (n : Int) (a : Option Addr) (la ca : Nat) (ls : List Rl) (hleft : W64 left) (w : World) (ha : Rls w a la ls) :
    Calls Try.prog 21 #[.int .u64 (left : Int), .int .i64 n, .slice a la ca] w fun e w' =>
      (∃ a1 c1, e = .returned (.tuple #[.slice a1 (resN 10 (lgOk left n ls)) c1, .int .i64 (okE (lgOk left n ls))]) ∧ Ins w' a1 (resN 10 (lgOk left n ls)) (cnV left n ls)) ∧ Below w.heap.size w w' := by
  cases h : lgOk left n ls
  · refine (sg_Counts_no left n a la ca ls hleft w ha h).mono ?_
    rintro e w' ⟨rfl, hb⟩
    exact ⟨⟨none, 0, rfl, Ins.none _ _⟩, hb⟩
  · obtain ⟨nn, rfl, h1, h2, h3⟩ := lg_parts h
    refine (sg_Counts_yes left nn h2 h1 a la ca ls w ha h3).mono ?_
    rintro e w' ⟨⟨b, rfl, -, hr⟩, hb⟩
    exact ⟨⟨_, 10, rfl, Ins.row hr (by decide)⟩, hb⟩
set_option maxHeartbeats 1000000 in
theorem sg_Told_yes (left nn : Nat) (hl : left < 4503599627370496) (hn : nn ≤ 13) (a : Option Addr) (la ca : Nat) (ls : List Rl) (s : Int) (hs : s = 0 ∨ namedB s = true) (b : Option Addr) (lb cb : Nat) (rb : List Rg) (okb : rightV rb = true) (w : World) (ha : Rls w a la ls) (hok : rightS ls = true) (hb : Rgs w b lb rb) :
    Calls Try.prog 28 #[.int .u64 (left : Int), .int .i64 (nn : Int), .slice a la ca, .int .i64 s, .slice b lb cb] w fun e w' =>
      e = .returned (.tuple #[.int .i64 ((gvC (deck left) nn QT ls s : Nat) : Int), .int .i64 ((gvC (deck left) nn (fitP rb) ls s : Nat) : Int), .int .i64 0]) ∧ Below w.heap.size w w' := by
  have HA := Lib.hid ha
  have HBr := Lib.hid hb
  have HOK := Lib.hid hok
  have HOB := Lib.hid okb
  have HL := Lib.hid hl
  have HN := Lib.hid hn
  have hlg : lgOk left (nn : Int) ls = true := by unfold lgOk legalB; rw [hok]; simp; omega
  have hW : W64 left := by unfold W64; omega
  have HLG := Lib.hid fun w' h => sg_legal left (nn : Int) a la ca ls hW w' h
  have htot : lgV left (nn : Int) ls = cntF (deck left) nn QT := by
    unfold lgV
    rw [hlg, if_pos rfl, cnt_true, deck_pop hl]; rfl
  rw [hlg, htot] at HLG
  have HTB := Lib.hid (gv_le left nn QT)
  obtain ⟨T, HT⟩ : ∃ x, Hid (cntF (deck left) nn QT = x) := ⟨_, Lib.hid rfl⟩
  rw [HT.out] at HLG HTB
  clear ha hb hok okb hl hn hlg hW htot
  obtain ⟨G1, HG1⟩ : ∃ x, Hid (gvC (deck left) nn QT ls s = x) := ⟨_, Lib.hid rfl⟩
  obtain ⟨G2, HG2⟩ : ∃ x, Hid (gvC (deck left) nn (fitP rb) ls s = x) := ⟨_, Lib.hid rfl⟩
  have HFB := Lib.hid (gv_le left nn (fitP rb))
  have HFT := Lib.hid (ft_true (deck left) nn rb)
  obtain ⟨F, HF⟩ : ∃ x, Hid (cntF (deck left) nn (fitP rb) = x) := ⟨_, Lib.hid rfl⟩
  rw [HF.out] at HFB HFT
  have tail : ∀ w1, Below w.heap.size w w1 → Calls Try.prog 46 #[.int .u64 (left : Int), .int .i64 (nn : Int)] w1 fun e w' => e = .returned (.func (.func 61) #[] #[.pointer (some ⟨w1.heap.size, 0, none⟩), .pointer (some ⟨w1.heap.size + 1, 0, none⟩)]) ∧ Below w.heap.size w w' ∧ Row w' w1.heap.size 22 #[.int .u64 (left : Int)] ∧ Row w' (w1.heap.size + 1) 3 #[.int .i64 (nn : Int)] := by
    intro w1 hb1
    refine (sg_counter left (nn : Int) w1).mono ?_
    rintro e w2 ⟨rfl, rfl⟩
    exact ⟨rfl, (hb1.alloc hb1.size _).alloc (by have := hb1.size; simp; omega) _, (Row.new _ _ _).alloc _, Row.new1 _ _ _ _⟩
  have HTAIL := Lib.hid tail
  clear tail
  have h0 : (s = 0 ∧ (s != 0) = false) ∨ ((s != 0) = true ∧ namedB s = true) := by
    rcases hs with h | h
    · exact .inl ⟨h, by simp [h]⟩
    · refine .inr ⟨?_, h⟩
      unfold namedB at h
      simp only [Bool.and_eq_true, decide_eq_true_eq] at h
      simp; omega
  clear hs
  go_enter Try.func28, Try.ntmps28
  go_wp2_with fail
  refine (HLG.out _ HA.out).mono ?_
  rintro e w1 ⟨rfl, hb1⟩
  have HB1 := Lib.hid hb1
  clear hb1 HLG
  simp only [show okE true = 0 from rfl]
  rcases h0 with ⟨-, hz⟩ | ⟨hz, hnm⟩
  · go_wp2_with fail
    refine (ag_Right b lb cb rb _ (HBr.out.below (Nat.le_refl _) HB1.out)).mono ?_
    rintro e w2 ⟨rfl, hb2⟩
    rw [HOB.out]
    have HB2 := Lib.hid (HB1.out.trans (hb2.mono HB1.out.size))
    clear hb2 HB1
    go_wp2_with fail
    refine (HTAIL.out _ HB2.out).mono ?_
    rintro e w3 ⟨rfl, hb3, h1, h2⟩
    have HB3 := Lib.hid hb3
    have H1 := Lib.hid h1
    have H2 := Lib.hid h2
    clear hb3 h1 h2 HB2 HTAIL
    generalize w2.heap.size = bl at *
    go_wp2_with fail
    refine (sg_givesC (deck left) nn QT (gv_le left nn) bl (bl + 1) a la ca ls s T HTB.out (fun _ => HT.out.symm) _ (HA.out.below (Nat.le_refl _) HB3.out) HOK.out (fun W hW ad m c rs hr hk => sg_counter1 left nn HL.out HN.out bl (bl + 1) ad m c rs W (H1.out.later hW) (H2.out.later hW) hr hk)).mono ?_
    rintro e w4 ⟨rfl, hb4⟩
    rw [HG1.out]
    have HB4 := Lib.hid (HB3.out.trans (hb4.mono HB3.out.size))
    have H14 := Lib.hid (H1.out.later hb4)
    have H24 := Lib.hid (H2.out.later hb4)
    clear hb4 HB3 H1 H2
    go_wp2_with fail
    refine (sg_counter1 left nn HL.out HN.out bl (bl + 1) b lb cb rb _ H14.out H24.out (HBr.out.below (Nat.le_refl _) HB4.out) HOB.out).mono ?_
    rintro e w5 ⟨rfl, hb5⟩
    rw [HFT.out]
    have HB5 := Lib.hid (HB4.out.trans (hb5.mono HB4.out.size))
    clear hb5 HB4 H14 H24
    go_wp2_with fail
    refine (sg_joint left (nn : Int) b lb cb _).mono ?_
    rintro e w6 ⟨rfl, rfl⟩
    have hb6 : Below w5.heap.size w5 (((w5.alloc (.cells #[.int .u64 (left : Int)] 22)).alloc (.cells #[.int .i64 (nn : Int)] 3)).alloc (.cells #[.slice b lb cb] 27)) := (((Below.refl _ _).alloc (Nat.le_refl _) _).alloc (by simp) _).alloc (by simp; omega) _
    have r1 : Row (((w5.alloc (.cells #[.int .u64 (left : Int)] 22)).alloc (.cells #[.int .i64 (nn : Int)] 3)).alloc (.cells #[.slice b lb cb] 27)) w5.heap.size 22 #[.int .u64 (left : Int)] := ((Row.new _ _ _).alloc _).alloc _
    have r2 : Row (((w5.alloc (.cells #[.int .u64 (left : Int)] 22)).alloc (.cells #[.int .i64 (nn : Int)] 3)).alloc (.cells #[.slice b lb cb] 27)) (w5.heap.size + 1) 3 #[.int .i64 (nn : Int)] := (Row.new1 _ _ _ _).alloc _
    have r3 : Row (((w5.alloc (.cells #[.int .u64 (left : Int)] 22)).alloc (.cells #[.int .i64 (nn : Int)] 3)).alloc (.cells #[.slice b lb cb] 27)) (w5.heap.size + 1 + 1) 27 #[.slice b lb cb] := Row.new2 _ _ _ _ _
    have HB6 := Lib.hid (HB5.out.trans (hb6.mono HB5.out.size))
    have R1 := Lib.hid r1
    have R2 := Lib.hid r2
    have R3 := Lib.hid r3
    clear hb6 r1 r2 r3 HB5
    generalize (((w5.alloc (.cells #[.int .u64 (left : Int)] 22)).alloc (.cells #[.int .i64 (nn : Int)] 3)).alloc (.cells #[.slice b lb cb] 27)) = w6 at *
    generalize w5.heap.size = b5 at *
    go_wp2_with fail
    refine (sg_givesJ (deck left) nn (fitP rb) (gv_le left nn) b5 (b5 + 1) (b5 + 1 + 1) a la ca ls s F HFB.out (fun _ => HF.out.symm) _ (HA.out.below (Nat.le_refl _) HB6.out) HOK.out (fun W hW ad m c rs hr hk => sg_joint1 left nn HL.out HN.out b5 (b5 + 1) (b5 + 1 + 1) b lb cb rb ad m c rs W (R1.out.later hW) (R2.out.later hW) (R3.out.later hW) (HBr.out.below (Nat.le_refl _) (HB6.out.trans (hW.mono HB6.out.size))) HOB.out hr hk)).mono ?_
    rintro e w7 ⟨rfl, hb7⟩
    rw [HG2.out]
    have HB7 := Lib.hid (HB6.out.trans (hb7.mono HB6.out.size))
    clear hb7 HB6 R1 R2 R3
    go_wp2_with fail
    go_ret3
    exact ⟨by rw [HG1.out, HG2.out]; rfl, HB7.out⟩
  · have HNM := Lib.hid hnm
    clear hnm
    go_wp2_with (go_at_call 42; refine (sg_named s _).mono ?_; rintro e w' ⟨rfl, rfl⟩; rw [HNM.out])
    refine (ag_Right b lb cb rb _ (HBr.out.below (Nat.le_refl _) HB1.out)).mono ?_
    rintro e w2 ⟨rfl, hb2⟩
    rw [HOB.out]
    have HB2 := Lib.hid (HB1.out.trans (hb2.mono HB1.out.size))
    clear hb2 HB1
    go_wp2_with fail
    refine (HTAIL.out _ HB2.out).mono ?_
    rintro e w3 ⟨rfl, hb3, h1, h2⟩
    have HB3 := Lib.hid hb3
    have H1 := Lib.hid h1
    have H2 := Lib.hid h2
    clear hb3 h1 h2 HB2 HTAIL
    generalize w2.heap.size = bl at *
    go_wp2_with fail
    refine (sg_givesC (deck left) nn QT (gv_le left nn) bl (bl + 1) a la ca ls s T HTB.out (fun _ => HT.out.symm) _ (HA.out.below (Nat.le_refl _) HB3.out) HOK.out (fun W hW ad m c rs hr hk => sg_counter1 left nn HL.out HN.out bl (bl + 1) ad m c rs W (H1.out.later hW) (H2.out.later hW) hr hk)).mono ?_
    rintro e w4 ⟨rfl, hb4⟩
    rw [HG1.out]
    have HB4 := Lib.hid (HB3.out.trans (hb4.mono HB3.out.size))
    have H14 := Lib.hid (H1.out.later hb4)
    have H24 := Lib.hid (H2.out.later hb4)
    clear hb4 HB3 H1 H2
    go_wp2_with fail
    refine (sg_counter1 left nn HL.out HN.out bl (bl + 1) b lb cb rb _ H14.out H24.out (HBr.out.below (Nat.le_refl _) HB4.out) HOB.out).mono ?_
    rintro e w5 ⟨rfl, hb5⟩
    rw [HFT.out]
    have HB5 := Lib.hid (HB4.out.trans (hb5.mono HB4.out.size))
    clear hb5 HB4 H14 H24
    go_wp2_with fail
    refine (sg_joint left (nn : Int) b lb cb _).mono ?_
    rintro e w6 ⟨rfl, rfl⟩
    have hb6 : Below w5.heap.size w5 (((w5.alloc (.cells #[.int .u64 (left : Int)] 22)).alloc (.cells #[.int .i64 (nn : Int)] 3)).alloc (.cells #[.slice b lb cb] 27)) := (((Below.refl _ _).alloc (Nat.le_refl _) _).alloc (by simp) _).alloc (by simp; omega) _
    have r1 : Row (((w5.alloc (.cells #[.int .u64 (left : Int)] 22)).alloc (.cells #[.int .i64 (nn : Int)] 3)).alloc (.cells #[.slice b lb cb] 27)) w5.heap.size 22 #[.int .u64 (left : Int)] := ((Row.new _ _ _).alloc _).alloc _
    have r2 : Row (((w5.alloc (.cells #[.int .u64 (left : Int)] 22)).alloc (.cells #[.int .i64 (nn : Int)] 3)).alloc (.cells #[.slice b lb cb] 27)) (w5.heap.size + 1) 3 #[.int .i64 (nn : Int)] := (Row.new1 _ _ _ _).alloc _
    have r3 : Row (((w5.alloc (.cells #[.int .u64 (left : Int)] 22)).alloc (.cells #[.int .i64 (nn : Int)] 3)).alloc (.cells #[.slice b lb cb] 27)) (w5.heap.size + 1 + 1) 27 #[.slice b lb cb] := Row.new2 _ _ _ _ _
    have HB6 := Lib.hid (HB5.out.trans (hb6.mono HB5.out.size))
    have R1 := Lib.hid r1
    have R2 := Lib.hid r2
    have R3 := Lib.hid r3
    clear hb6 r1 r2 r3 HB5
    generalize (((w5.alloc (.cells #[.int .u64 (left : Int)] 22)).alloc (.cells #[.int .i64 (nn : Int)] 3)).alloc (.cells #[.slice b lb cb] 27)) = w6 at *
    generalize w5.heap.size = b5 at *
    go_wp2_with fail
    refine (sg_givesJ (deck left) nn (fitP rb) (gv_le left nn) b5 (b5 + 1) (b5 + 1 + 1) a la ca ls s F HFB.out (fun _ => HF.out.symm) _ (HA.out.below (Nat.le_refl _) HB6.out) HOK.out (fun W hW ad m c rs hr hk => sg_joint1 left nn HL.out HN.out b5 (b5 + 1) (b5 + 1 + 1) b lb cb rb ad m c rs W (R1.out.later hW) (R2.out.later hW) (R3.out.later hW) (HBr.out.below (Nat.le_refl _) (HB6.out.trans (hW.mono HB6.out.size))) HOB.out hr hk)).mono ?_
    rintro e w7 ⟨rfl, hb7⟩
    rw [HG2.out]
    have HB7 := Lib.hid (HB6.out.trans (hb7.mono HB6.out.size))
    clear hb7 HB6 R1 R2 R3
    go_wp2_with fail
    go_ret3
    exact ⟨by rw [HG1.out, HG2.out]; rfl, HB7.out⟩
/-- what Told says -/
def tdOk (left : Nat) (n : Int) (ls : List Rl) (s : Int) (rb : List Rg) : Bool := lgOk left n ls && (decide (s = 0) || namedB s) && rightV rb
theorem sg_Told_no (left : Nat) (n : Int) (a : Option Addr) (la ca : Nat) (ls : List Rl) (s : Int) (b : Option Addr) (lb cb : Nat) (rb : List Rg) (hleft : W64 left) (w : World) (ha : Rls w a la ls) (hb : Rgs w b lb rb) (hno : tdOk left n ls s rb = false) :
    Calls Try.prog 28 #[.int .u64 (left : Int), .int .i64 n, .slice a la ca, .int .i64 s, .slice b lb cb] w fun e w' => e = .returned (.tuple #[.int .i64 0, .int .i64 0, .int .i64 2]) ∧ Below w.heap.size w w' := by
  have HA := Lib.hid ha
  have HBr := Lib.hid hb
  have HLG := Lib.hid fun w' h => sg_legal left n a la ca ls hleft w' h
  clear ha hleft hb
  cases hl : lgOk left n ls
  · rw [hl] at HLG
    go_enter Try.func28, Try.ntmps28
    go_wp2_with fail
    refine (HLG.out _ HA.out).mono ?_
    rintro e w1 ⟨rfl, hb1⟩
    have HB1 := Lib.hid hb1
    clear hb1
    simp only [show okE false = 2 from rfl]
    go_wp2_with fail
    go_ret3
    exact ⟨rfl, HB1.out⟩
  · rw [hl] at HLG
    by_cases h0 : s = 0
    · have hr : rightV rb = false := by
        unfold tdOk at hno
        rw [hl, decide_eq_true h0] at hno
        simpa using hno
      have hz : (s != 0) = false := by simp [h0]
      have HR := Lib.hid hr
      clear hr hno hl h0
      go_enter Try.func28, Try.ntmps28
      go_wp2_with fail
      refine (HLG.out _ HA.out).mono ?_
      rintro e w1 ⟨rfl, hb1⟩
      have HB1 := Lib.hid hb1
      clear hb1
      simp only [show okE true = 0 from rfl]
      go_wp2_with fail
      refine (ag_Right b lb cb rb _ (HBr.out.below (Nat.le_refl _) HB1.out)).mono ?_
      rintro e w2 ⟨rfl, hb2⟩
      rw [HR.out]
      have HB2 := Lib.hid (HB1.out.trans (hb2.mono HB1.out.size))
      clear hb2
      go_wp2_with fail
      go_ret3
      exact ⟨rfl, HB2.out⟩
    · have hz : (s != 0) = true := by simp [h0]
      cases hn : namedB s
      · have HNM := Lib.hid hn
        clear hn hno hl h0
        go_enter Try.func28, Try.ntmps28
        go_wp2_with fail
        refine (HLG.out _ HA.out).mono ?_
        rintro e w1 ⟨rfl, hb1⟩
        have HB1 := Lib.hid hb1
        clear hb1
        simp only [show okE true = 0 from rfl]
        go_wp2_with (go_at_call 42; refine (sg_named s _).mono ?_; rintro e w' ⟨rfl, rfl⟩; rw [HNM.out])
        go_ret3
        exact ⟨rfl, HB1.out⟩
      · have hr : rightV rb = false := by
          unfold tdOk at hno
          rw [hl, hn] at hno
          simpa using hno
        have HNM := Lib.hid hn
        have HR := Lib.hid hr
        clear hn hno hl h0 hr
        go_enter Try.func28, Try.ntmps28
        go_wp2_with fail
        refine (HLG.out _ HA.out).mono ?_
        rintro e w1 ⟨rfl, hb1⟩
        have HB1 := Lib.hid hb1
        clear hb1
        simp only [show okE true = 0 from rfl]
        go_wp2_with (go_at_call 42; refine (sg_named s _).mono ?_; rintro e w' ⟨rfl, rfl⟩; rw [HNM.out])
        refine (ag_Right b lb cb rb _ (HBr.out.below (Nat.le_refl _) HB1.out)).mono ?_
        rintro e w2 ⟨rfl, hb2⟩
        rw [HR.out]
        have HB2 := Lib.hid (HB1.out.trans (hb2.mono HB1.out.size))
        clear hb2
        go_wp2_with fail
        go_ret3
        exact ⟨rfl, HB2.out⟩
def tdV (left : Nat) (n : Int) (ls : List Rl) (s : Int) (rb : List Rg) : Nat × Nat × Int := if tdOk left n ls s rb then (gvC (deck left) n.toNat QT ls s, gvC (deck left) n.toNat (fitP rb) ls s, 0) else (0, 0, 2)
theorem sg_ToldV (left : Nat) (n : Int) (a : Option Addr) (la ca : Nat) (ls : List Rl) (s : Int) (b : Option Addr) (lb cb : Nat) (rb : List Rg) (hleft : W64 left) (w : World) (ha : Rls w a la ls) (hb : Rgs w b lb rb) :
    Calls Try.prog 28 #[.int .u64 (left : Int), .int .i64 n, .slice a la ca, .int .i64 s, .slice b lb cb] w fun e w' =>
      e = .returned (.tuple #[.int .i64 ((tdV left n ls s rb).1 : Int), .int .i64 ((tdV left n ls s rb).2.1 : Int), .int .i64 (tdV left n ls s rb).2.2]) ∧ Below w.heap.size w w' := by
  unfold tdV
  cases h : tdOk left n ls s rb
  · exact sg_Told_no left n a la ca ls s b lb cb rb hleft w ha hb h
  · have h1 := (Bool.and_eq_true_iff.1 h).1
    obtain ⟨nn, rfl, q1, q2, q3⟩ := lg_parts (Bool.and_eq_true_iff.1 h1).1
    have hs : s = 0 ∨ namedB s = true := by
      rcases Bool.or_eq_true_iff.1 (Bool.and_eq_true_iff.1 h1).2 with h | h
      · exact .inl (of_decide_eq_true h)
      · exact .inr h
    exact sg_Told_yes left nn q2 q1 a la ca ls s hs b lb cb rb (Bool.and_eq_true_iff.1 h).2 w ha q3 hb
end Go.Proofs.Ytikdkhiehfccpaa
