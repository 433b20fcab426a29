/- finesselaw40.bits, little and hands over this seat's program. -/
import Derived.Test.YtmkplfndbjcflaaPlG
import Derived.Test.YtmkplfndbjcflaaApq
import Derived.Test.YtmkplfndbjcflaaByt
namespace Go.Proofs.Ytmkplfndbjcflaa
open Go.RowKit Go.Sort Go.Shelf Cnt

theorem law_bits (x : Nat) (hx : W64 x) (w : World) : Calls Try.prog 32 #[.int .u64 (x : Int)] w fun e w' => e = .returned (.int .i64 ((pop x : Nat) : Int)) ∧ w = w' := by
  have HX := Lib.hid hx
  clear hx
  go_enter Try.func32, Try.ntmps32
  go_wp2_with fail
  go_loopw [0, 3] (fun h o wr => ∃ (y k : Nat), h = .int .u64 (y : Int) ∧ o = .int .i64 (k : Int) ∧ W64 y ∧ k + pop y = pop x ∧ w = wr) (fun h _ _ => (intOf h).toNat)
  case atStart => exact ⟨x, 0, rfl, rfl, HX.out, by omega, rfl⟩
  case round =>
    obtain ⟨y, k, rfl, rfl, hy, hk, rfl⟩ := hrel
    rcases Nat.eq_zero_or_pos y with h0 | h0
    · subst h0
      rw [pop_zero] at hk
      obtain rfl : k = pop x := by omega
      go_wp2_with fail
      go_ret
      exact ⟨rfl, rfl⟩
    · have hd : decide ((0 : Int) < (y : Int)) = true := by simp; omega
      have hdr : bits .and .u64 (y : Int) (IntKind.u64.wrap ((y : Int) - 1)) = ((drop1 y : Nat) : Int) := by
        rw [show (y : Int) - 1 = ((y - 1 : Nat) : Int) by omega, wrap_u64 _ (by unfold W64 at *; omega), bits_and_nat y (y - 1) hy (by unfold W64 at *; omega)]
        rfl
      have HDR := Lib.hid hdr
      clear hdr
      have hp := drop1_pop y (by omega) hy
      have hle : pop x ≤ 64 := cnt_le x 64
      have hl := drop1_lt y (by omega)
      have HP := Lib.hid (And.intro hp (And.intro hle hl))
      have hk64 : k < 64 := by omega
      have hwy : W64 (drop1 y) := by unfold W64 at *; omega
      have HWY := Lib.hid hwy
      have HY := Lib.hid hy
      clear hp hle hl hwy
      go_wp2_with fail
      rw [HDR.out]
      refine ⟨⟨drop1 y, k + 1, rfl, by simp, HWY.out, by have := HP.out; omega, trivial⟩, ?_⟩
      have := HP.out.2.2
      simp [intOf]; omega
/-- the mask of a list's first cards -/
def litTo (zs : List Nat) : Nat → Nat
  | 0 => 0
  | k + 1 => lor (litTo zs k) (shl1 (zs.getD k 0 % 52))
theorem litTo_lt (zs : List Nat) : ∀ k, litTo zs k < 4503599627370496
  | 0 => Nat.zero_lt_succ _
  | k + 1 => lor_52 (litTo_lt zs k) (by omega)
theorem litTo_pop (zs : List Nat) : ∀ k, pop (litTo zs k) ≤ k
  | 0 => by show pop 0 ≤ 0; rw [pop_zero]; exact Nat.le_refl _
  | k + 1 => by
    have ih := litTo_pop zs k
    have hc : zs.getD k 0 % 52 < 64 := by omega
    show pop (lor (litTo zs k) (shl1 (zs.getD k 0 % 52))) ≤ k + 1
    generalize zs.getD k 0 % 52 = c at *
    by_cases h : (litTo zs k).testBit c = true
    · have e : lor (litTo zs k) (shl1 c) = litTo zs k := by
        apply Nat.eq_of_testBit_eq
        intro i
        rw [testBit_lor, testBit_shl1]
        by_cases e : c = i
        · subst e; simp [h]
        · simp [e]
      rw [e]; omega
    · have h2 := pop_landn hc (lor_self (L := litTo zs k) hc)
      have e : landn (lor (litTo zs k) (shl1 c)) (shl1 c) = litTo zs k := by
        apply Nat.eq_of_testBit_eq
        intro i
        rw [land_bit hc, testBit_lor, testBit_shl1]
        by_cases e : c = i
        · subst e
          have : (litTo zs k).testBit c = false := by simpa using h
          simp [this]
        · have e2 : (i != c) = true := by simp; exact fun h => e h.symm
          simp [e, e2]
      rw [e] at h2
      omega
theorem law_little (a : Option Addr) (len cap : Nat) (zs : List Nat) (w : World) (hz : Byt w a len zs) (hlc : len ≤ cap) :
    Calls Try.prog 28 #[.slice a len cap] w fun e w' => e = .returned (.int .u64 ((litTo zs (min len 12) : Nat) : Int)) ∧ w = w' := by
  have HZ := Lib.hid hz
  have hsm := hz.small
  clear hz
  have HM : Hid (mn (len : Int) 12 = ((min len 12 : Nat) : Int)) := Lib.hid (by unfold mn; split <;> omega)
  have hml : min len 12 ≤ len := by omega
  have hm12 : min len 12 ≤ 12 := by omega
  generalize min len 12 = m at *
  go_enter Try.func28, Try.ntmps28
  go_wp2_with (refine wpList_min rfl (.tmp 8) (.const (.int .i64 12)) _ _ rfl (len : Int) 12 rfl rfl ?_; rw [HM.out])
  go_loopw [3, 12] (fun v i wr => ∃ (k t : Nat), k ≤ m ∧ i = .int .i64 (k : Int) ∧ v = .int .u64 (t : Int) ∧ t = litTo zs k ∧ w = wr) (fun _ i _ => m - (intOf i).toNat)
  case atStart => exact ⟨0, 0, by omega, rfl, rfl, rfl, rfl⟩
  case round =>
    obtain ⟨k, t, hk, rfl, rfl, ht, rfl⟩ := hrel
    by_cases hlt : k < m
    · have hd : decide ((k : Int) < (m : Int)) = true := by simp; omega
      obtain ⟨ba, offa, rfl, hbl, hcell⟩ := HZ.out.at (by omega)
      have hc := hcell k (by omega)
      have hzb := HZ.out.byte k
      have hwt : W64 t := by have := litTo_lt zs k; unfold W64; omega
      have HT : Hid (litTo zs (k + 1) = lor t (shl1 (zs.getD k 0 % 52))) := Lib.hid (by rw [ht]; rfl)
      generalize zs.getD k 0 = z at *
      have hz52 : (z : Int) % 52 = ((z % 52 : Nat) : Int) := by omega
      have hzl : z % 52 < 52 := by omega
      generalize z % 52 = c at *
      clear hcell ht
      go_wp2_with fail
      exact ⟨⟨k + 1, _, by omega, by simp, rfl, HT.out.symm, trivial⟩, by simp [intOf]; omega⟩
    · obtain rfl : k = m := by omega
      subst ht
      go_wp2_with fail
      go_ret
      exact ⟨rfl, rfl⟩
/-- the range of a list being put together -/
theorem take_succ' {α : Type} (l : List α) (k : Nat) (hk : k < l.length) : l.take (k + 1) = l.take k ++ [l[k]] := by
  rw [List.take_add_one, List.getElem?_eq_getElem hk]; rfl
theorem getD_eq' (l : List Nat) (k : Nat) (hk : k < l.length) : l.getD k 0 = l[k] := by
  rw [List.getD_eq_getElem?_getD, List.getElem?_eq_getElem hk]; rfl
set_option maxHeartbeats 1000000 in
theorem law_hands (L nn : Nat) (hL : L < 4503599627370496) (hp : pop L ≤ 20) (w : World) :
    Calls Try.prog 29 #[.int .u64 (L : Int), .int .i64 (nn : Int)] w fun e w' => (∃ v, e = .returned v ∧ OwnQ w' w.heap.size v (handsL L nn)) ∧ Below w.heap.size w w' := by
  have HL := Lib.hid (show W64 L by unfold W64; omega)
  have HLEN : Hid (∀ k, k ≤ 52 → (subs L k).length ≤ 1048576) := Lib.hid fun k hk => by
    rw [subs_len]
    have h1 : cnt L k ≤ pop L := by
      unfold pop
      rw [cnt_sum, cnt_sum]
      exact sumN_mono _ (by omega)
    exact Nat.le_trans (Nat.pow_le_pow_right (n := 2) (by decide) (show cnt L k ≤ 20 by omega)) (by decide)
  have HNE : Hid (∀ k, subs L k ≠ []) := Lib.hid fun k => by
    intro e
    have := subs_len L k
    rw [e] at this
    have h2 := Nat.two_pow_pos (cnt L k)
    simp at this; omega
  clear hL hp
  go_enter Try.func29, Try.ntmps29
  go_wp2_with fail
  have h0 := ownQ_new w w.heap.size 0 (Nat.le_refl _)
  have hb0 : Below w.heap.size w (w.alloc (.cells #[.int .u64 ((0 : Nat) : Int)] 22)) := (Below.refl _ _).alloc (Nat.le_refl _) _
  go_loopw [5, 13] (fun v i wr => ∃ (c : Nat), c ≤ 52 ∧ i = .int .i64 (c : Int) ∧ OwnQ wr w.heap.size v (subs L c) ∧ Below w.heap.size w wr) (fun _ i _ => 52 - (intOf i).toNat)
  case atStart => exact ⟨0, by omega, rfl, h0, hb0⟩
  case round =>
    obtain ⟨c, hc, rfl, ho, hb⟩ := hrel
    clear h0 hb0
    have HB := Lib.hid hb
    clear hb
    rcases ho.form with ⟨_, he⟩ | ⟨g, cap, rfl, hg, hgl, hlc, hcm⟩
    · exact (HNE.out _ he).elim
    have HO := Lib.hid ho
    clear ho
    by_cases hlt : c < 52
    · have hd : decide ((c : Int) < 52) = true := by simp; omega
      have hwl := HL.out
      cases hbit : L.testBit c
      · have hs : subs L (c + 1) = subs L c := by show (if L.testBit c then _ else _) = _; rw [hbit]; rfl
        have HS := Lib.hid hs
        clear hs
        go_wp2_with fail
        refine ⟨⟨c + 1, by omega, by simp, ?_, HB.out⟩, by simp [intOf]; omega⟩
        rw [HS.out]; exact HO.out
      · have hs : subs L (c + 1) = subs L c ++ (subs L c).map (fun h => lor h (shl1 c)) := by show (if L.testBit c then _ else _) = _; rw [hbit]; rfl
        have HS := Lib.hid hs
        have HLC := HLEN.out c (by omega)
        have HW : Hid (∀ k, k < (subs L c).length → W64 ((subs L c).getD k 0)) := Lib.hid fun k hk => by
          rw [getD_eq' _ _ hk]
          have := subs_52 (L := L) (k := c) (by omega) (List.getElem_mem hk)
          unfold W64; omega
        have HCE := Lib.hid (CellsQ.of HO.out)
        generalize subs L c = l at *
        obtain ⟨m, Hm⟩ : ∃ m, Hid (l.length = m) := ⟨_, Lib.hid rfl⟩
        rw [Hm.out] at hlc HLC HW HO
        have hmc : (m : Int) ≤ (cap : Int) := by omega
        have hm0 : (0 : Int) ≤ (m : Int) := by omega
        clear hs
        try rw [Hm.out]
        go_wp2_with fail
        clear hmc hm0
        go_loopw [5, 28] (fun v i wr => ∃ (k : Nat), k ≤ m ∧ i = .int .i64 (k : Int) ∧ OwnQ wr w.heap.size v (l ++ (l.take k).map (fun h => lor h (shl1 c))) ∧ CellsQ wr g l ∧ Below w.heap.size w wr) (fun _ i _ => m - (intOf i).toNat)
        case atStart => exact ⟨0, by omega, rfl, by simpa using HO.out, HCE.out, HB.out⟩
        case round =>
          obtain ⟨k, hk, rfl, hok, hce, hbk⟩ := hrel
          have HOK := Lib.hid hok
          have HCE2 := Lib.hid hce
          have HBK := Lib.hid hbk
          clear hok hce hbk
          by_cases hlt2 : k < m
          · have hd2 : decide ((k : Int) < (m : Int)) = true := by simp; omega
            have hkl : k < l.length := by have := Hm.out; omega
            have hcell := HCE2.out.2 k hkl
            have hwz := HW.out k hlt2
            have HNX : Hid ((l.take (k + 1)).map (fun h => lor h (shl1 c)) = (l.take k).map (fun h => lor h (shl1 c)) ++ [lor (l.getD k 0) (shl1 c)]) := Lib.hid (by
              rw [take_succ' l k hkl, List.map_append, getD_eq' l k hkl]; rfl)
            generalize l.getD k 0 = z at *
            have HLK : Hid ((l ++ (l.take k).map (fun h => lor h (shl1 c))).length ≤ 10000000) := Lib.hid (by
              have := Hm.out
              rw [List.length_append, List.length_map, List.length_take]; omega)
            clear hkl
            go_wp2_with (refine appQ rfl (.tmp 32) (.tmp 37) rfl w.heap.size _ (l ++ (l.take k).map (fun h => lor h (shl1 c))) (lor z (shl1 c)) rfl wr rfl rfl HOK.out HLK.out HBK.out.size ?_; intro v' w' h1 h2 h3 h4; have HV := Lib.hid h1; have HC3 := Lib.hid (HCE2.out.grown h3 h2); have HB3 := Lib.hid (HBK.out.trans h4); clear h1 h2 h3 h4)
            refine ⟨⟨k + 1, by omega, by simp, ?_, HC3.out, HB3.out⟩, by simp [intOf]; omega⟩
            rw [HNX.out, ← List.append_assoc]
            exact HV.out
          · obtain rfl : k = m := by omega
            go_wp2_with fail
            go_roundw
            · refine ⟨c + 1, by omega, by simp, ?_, HBK.out⟩
              have := HOK.out
              rw [HS.out]
              rwa [List.take_of_length_le (by rw [Hm.out]; exact Nat.le_refl _)] at this
            · simp [intOf]; omega
    · obtain rfl : c = 52 := by omega
      have HCE := Lib.hid (CellsQ.of HO.out)
      have HLC := HLEN.out 52 (Nat.le_refl _)
      have HW : Hid (∀ k, k < (subs L 52).length → W64 ((subs L 52).getD k 0)) := Lib.hid fun k hk => by
        rw [getD_eq' _ _ hk]
        have := subs_52 (L := L) (k := 52) (by omega) (List.getElem_mem hk)
        unfold W64; omega
      have HH : Hid ((subs L 52).filter (fun h => decide (pop h = nn)) = handsL L nn) := Lib.hid rfl
      clear HO HNE HLEN
      generalize subs L 52 = l at *
      obtain ⟨m, Hm⟩ : ∃ m, Hid (l.length = m) := ⟨_, Lib.hid rfl⟩
      rw [Hm.out] at hlc HLC HW
      try rw [Hm.out]
      simp only [show ((52 : Nat) : Int) = 52 from rfl]
      obtain ⟨W3, hW3⟩ : ∃ W3, W3 = wr := ⟨_, rfl⟩
      subst hW3
      go_wp2_with fail
      go_loopw [9, 43] (fun v i w3 => ∃ (k : Nat), k ≤ m ∧ i = .int .i64 (k : Int) ∧ OwnQ w3 W3.heap.size v ((l.take k).filter (fun h => decide (pop h = nn))) ∧ Below W3.heap.size W3 w3) (fun _ i _ => m - (intOf i).toNat)
      case atStart => exact ⟨0, by omega, rfl, by simpa using ownQ_nil _ _, Below.refl _ _⟩
      case round =>
        obtain ⟨k, hk, rfl, hok, hbk⟩ := hrel
        have HOK := Lib.hid hok
        have HBK := Lib.hid hbk
        clear hok hbk
        by_cases hlt2 : k < m
        · have hd2 : decide ((k : Int) < (m : Int)) = true := by simp; omega
          have hkl : k < l.length := by have := Hm.out; omega
          have hcell := (HCE.out.later HBK.out).2 k hkl
          have hwz := HW.out k hlt2
          have HNX : Hid ((l.take (k + 1)).filter (fun h => decide (pop h = nn)) = (l.take k).filter (fun h => decide (pop h = nn)) ++ if pop (l.getD k 0) = nn then [l.getD k 0] else []) := Lib.hid (by
            rw [take_succ' l k hkl, List.filter_append, getD_eq' l k hkl]
            congr 1
            simp only [List.filter_cons, List.filter_nil, decide_eq_true_eq])
          generalize l.getD k 0 = z at *
          have HLK : Hid (((l.take k).filter (fun h => decide (pop h = nn))).length ≤ 10000000) := Lib.hid (by
            have h1 := List.length_filter_le (fun h => decide (pop h = nn)) (l.take k)
            rw [List.length_take] at h1
            have := Hm.out
            omega)
          clear hkl
          have HWZ := Lib.hid hwz
          go_wp2_with fail
          refine (law_bits z HWZ.out _).mono ?_
          rintro e w' ⟨rfl, rfl⟩
          by_cases hpz : pop z = nn
          · have hpi : ((pop z : Nat) : Int) = (nn : Int) := by omega
            rw [if_pos hpz] at HNX
            have HPZ := Lib.hid hpz
            clear hpz
            rw [hpi]
            clear hpi
            go_wp2_with (refine appQ rfl (.tmp 51) (.tmp 53) rfl W3.heap.size _ ((l.take k).filter (fun h => decide (pop h = nn))) z rfl wr rfl rfl HOK.out HLK.out HBK.out.size ?_; intro v' w' h1 h2 h3 h4; have HV := Lib.hid h1; have HB3 := Lib.hid (HBK.out.trans h4); clear h1 h2 h3 h4)
            refine ⟨⟨k + 1, by omega, by simp, ?_, HB3.out⟩, by simp [intOf]; omega⟩
            rw [HNX.out]
            exact HV.out
          · have hpi : (((pop z : Nat) : Int) == (nn : Int)) = false := by simp; omega
            rw [if_neg hpz, List.append_nil] at HNX
            go_wp2_with fail
            refine ⟨⟨k + 1, by omega, by simp, ?_, HBK.out⟩, by simp [intOf]; omega⟩
            rw [HNX.out]
            exact HOK.out
        · obtain rfl : k = m := by omega
          have HV : Hid (OwnQ wr W3.heap.size u9 (handsL L nn)) := Lib.hid (by
            have := HOK.out
            rwa [List.take_of_length_le (by rw [Hm.out]; exact Nat.le_refl _), HH.out] at this)
          go_wp2_with fail
          go_ret
          exact ⟨⟨_, rfl, HV.out.mono HB.out.size⟩, HB.out.trans (HBK.out.mono HB.out.size)⟩
end Go.Proofs.Ytmkplfndbjcflaa
