/- DummyHigh over this seat's program. -/
import Derived.Test.YtpobcaopfeddgaaDoorDmRd
import Derived.Test.YtpobcaopfeddgaaDoorDmRc
import Derived.Test.YtpobcaopfeddgaaDoorMDqa
import Derived.Test.YtpobcaopfeddgaaDoorDmAw
import Derived.Deep.CutRange
namespace Go.Proofs.YtpobcaopfeddgaaDoor
open Go.RowKit Go.Sort Go.Shelf Go.Maps Go.WideMaps

def allH (h : Nat → Nat) : Nat := lor (lor (lor (h 0) (h 1)) (h 2)) (h 3)
theorem allH_iff {h : Nat → Nat} {c : Nat} : (allH h).testBit c = false ↔ ∀ s, s < 4 → (h s).testBit c = false := by
  unfold allH
  rw [testBit_lor, testBit_lor, testBit_lor]
  simp only [Bool.or_eq_false_iff]
  constructor
  · rintro ⟨⟨⟨h0, h1⟩, h2⟩, h3⟩ s hs
    rcases (show s = 0 ∨ s = 1 ∨ s = 2 ∨ s = 3 by omega) with rfl | rfl | rfl | rfl <;> assumption
  · intro h1
    exact ⟨⟨⟨h1 0 (by decide), h1 1 (by decide)⟩, h1 2 (by decide)⟩, h1 3 (by decide)⟩
set_option maxHeartbeats 4000000 in
set_option maxRecDepth 10000 in
theorem law_DummyHigh (a : Option Addr) (len cap : Nat) (zs : List Nat) (n tr ld : Nat) (w : World) (hz : Byt w a len zs) (hn : n < 256) (htr : tr < 256) (hld : ld < 256) (hT : Tab w) :
    Calls Tryd.prog 7 #[.slice a len cap, .int .u8 (n : Int), .int .u8 (tr : Int), .int .u8 (ld : Int)] w fun e w' => e = .returned (.bool true) ∧ Below w.heap.size w w' := by
  have HT := Lib.hid hT
  have HDE := Lib.hid (dm_Dealt a len cap zs n tr ld 4 hn htr hld (Nat.le_refl _) w hz)
  have hq4 : n % (4 + 1) ≤ 4 := by omega
  have ht5 : tr % 5 < 5 := by omega
  have hl4 : ld % 4 < 4 := by omega
  obtain ⟨q, hq⟩ : ∃ q, n % (4 + 1) = q := ⟨_, rfl⟩
  obtain ⟨t5, htt⟩ : ∃ q, tr % 5 = q := ⟨_, rfl⟩
  obtain ⟨l4, hll⟩ : ∃ q, ld % 4 = q := ⟨_, rfl⟩
  rw [hq, htt, hll] at HDE
  rw [hq] at hq4
  rw [htt] at ht5
  rw [hll] at hl4
  simp only [show ((4 : Nat) : Int) = 4 from rfl] at HDE
  clear hq htt hll hz hT
  go_enter Tryd.func7, Tryd.ntmps7
  go_wp2_with fail
  refine HDE.out.mono ?_
  rintro e w1 ⟨h, hD, rfl, hb1⟩
  have HD := Lib.hid hD
  have HPZ : Hid ((posA h t5 l4 (.slice none 0 0)).size = 7 ∧ (posA h t5 l4 (.slice none 0 0)).all (·.oneCell') = true) := Lib.hid ⟨rfl, by simp [posA, Value.oneCell']⟩
  have HPC : Hid (∀ s, s < 4 → (posA h t5 l4 (.slice none 0 0))[s]? = some (.int .u64 (h s : Int))) := Lib.hid fun s hs => posA_h _ _ _ _ hs
  have HP45 : Hid ((posA h t5 l4 (.slice none 0 0))[4]? = some (.int .u8 (t5 : Int)) ∧ (posA h t5 l4 (.slice none 0 0))[5]? = some (.int .u8 (l4 : Int))) := Lib.hid ⟨rfl, rfl⟩
  have HLE := Lib.hid (fun W => dm_Left_ok h t5 l4 [] none 0 hD.w64 (by omega) (by omega) W (byt_nil W) (hD.right (by omega) (by omega) (by omega)))
  have HSO := Lib.hid (fun W (hT : Tab W) => dm_Solve_ok h t5 l4 [] none 0 hD.w64 (by omega) (by omega) W (byt_nil W) hT q (hD.turn l4) hq4 (hD.right (by omega) (by omega) (by omega)))
  rw [hD.turn, show (l4 + ([] : List Nat).length) % 4 = l4 by simp; omega] at HLE
  have HVL := Lib.hid (val_le t5 (4 * q) q ⟨h, l4, []⟩ (by simp) (hD.pos (by omega) (by omega)).evn (by simp))
  have HSN : Hid (t5 = 4 → ∀ sx d k, 13 * sx ≤ d → k + cnt (h l4) d ≤ cnt (h l4) (13 * sx + 13) → (∀ s, s < 4 → s ≠ l4 → ∀ c, (h s).testBit c = true → c / 13 = sx → c < d) → k ≤ sideV l4 q (val t5 (4 * q) ⟨h, l4, []⟩)) := Lib.hid (by
    rintro rfl sx d k h1 h2 h3
    exact sure_nt hD (by omega) hl4 h1 h2 h3)
  have HST : Hid (∀ C i, i < 4 → (h i).testBit C = true → C / 13 = t5 → (∀ s x, s < 4 → (h s).testBit x = true → x / 13 = t5 → x ≤ C) → 1 ≤ sideV i q (val t5 (4 * q) ⟨h, l4, []⟩)) := Lib.hid fun C i h1 h2 h3 h4 => sure_trump hD (by omega) hl4 h1 h2 h3 h4
  obtain ⟨V, hV⟩ : ∃ V, val t5 (4 * q - ([] : List Nat).length) ⟨h, l4, []⟩ = V := ⟨_, rfl⟩
  have hV2 : val t5 (4 * q) ⟨h, l4, []⟩ = V := hV
  rw [hV] at HSO
  rw [hV2] at HVL HSN HST
  obtain ⟨PA, hPA⟩ : ∃ A, posA h t5 l4 (.slice none 0 0) = A := ⟨_, rfl⟩
  have hPA' : posA h t5 l4 (.slice none ([] : List Nat).length 0) = PA := hPA
  rw [hPA] at HPZ HPC HP45 ⊢
  rw [hPA'] at HLE HSO
  have HN := Lib.hid (Row.new w1 27 zeroP)
  have ha := below_setRow ((Below.refl w1.heap.size w1).alloc (Nat.le_refl _) (.cells zeroP 27)) (Nat.le_refl _) PA
  have hr : Row ((w1.alloc (.cells zeroP 27)).setRow w1.heap.size PA) w1.heap.size 27 PA := setRow_heap _ _ _ _ _ _ HN.out
  have HR := Lib.hid hr
  have HB := Lib.hid (hb1.trans (ha.mono hb1.size))
  have HT2 := Lib.hid (HT.out.below HT.out.pos HB.out)
  clear hb1 ha hr hPA hPA' hV hV2 hD
  go_upto_region 2 with (refine wpList_store_row rfl 27 (.tmp 9) (.tmp 27) rfl w1.heap.size PA rfl rfl 27 _ HN.out (by rw [HPZ.out.1]; exact size_pos) (by rw [HPZ.out.1]; rfl) HPZ.out.2 ?_)
  try dsimp only [Act.put]
  generalize (w1.alloc (.cells zeroP 27)).setRow w1.heap.size PA = w2 at *
  obtain ⟨b9, hb9⟩ : ∃ b, w1.heap.size = b := ⟨_, rfl⟩
  rw [hb9] at HR ⊢
  clear hb9
  go_wp2_with (refine wpList_load_row rfl 27 (.tmp 9) rfl b9 rfl 27 PA (0, 0) _ HR.out Tryd.underlying27 rfl (by rw [HPZ.out.1]; exact size_pos) ?_)
  refine (HLE.out _).mono ?_
  rintro e w3 ⟨rfl, hb3⟩
  have HR3 := Lib.hid (HR.out.later hb3)
  have HB3 := Lib.hid (HB.out.trans (hb3.mono HB.out.size))
  have HT3 := Lib.hid (HT2.out.below HT2.out.pos hb3)
  clear hb3
  go_wp2_with (refine wpList_load_row rfl 27 (.tmp 9) rfl b9 rfl 27 PA (0, 0) _ HR3.out Tryd.underlying27 rfl (by rw [HPZ.out.1]; exact size_pos) ?_)
  refine (HSO.out _ HT3.out).mono ?_
  rintro e w4 ⟨rfl, hb4⟩
  have HR4 := Lib.hid (HR3.out.later hb4)
  have HB4 := Lib.hid (HB3.out.trans (hb4.mono HB3.out.size))
  have HT4 := Lib.hid (HT3.out.below HT3.out.pos hb4)
  clear hb4
  have HQ4 := Lib.hid hq4
  have HTL := Lib.hid (And.intro ht5 hl4)
  have hvq := HVL.out
  have c0 := (HR4.out.cell 0).trans (HPC.out 0 (by decide))
  have c1 := (HR4.out.cell 1).trans (HPC.out 1 (by decide))
  have c2 := (HR4.out.cell 2).trans (HPC.out 2 (by decide))
  have c3 := (HR4.out.cell 3).trans (HPC.out 3 (by decide))
  have c4 := (HR4.out.cell 4).trans HP45.out.1
  have k0 := HD.out.w64 0
  have k1 := HD.out.w64 1
  have k2 := HD.out.w64 2
  have k3 := HD.out.w64 3
  have o1 := run_or64 (h 0) (h 1) k0 k1
  have o2 := run_or64 (lor (h 0) (h 1)) (h 2) (k0.lor k1) k2
  have o3 := run_or64 (lor (lor (h 0) (h 1)) (h 2)) (h 3) ((k0.lor k1).lor k2) k3
  go_upto_if 60 with fail
  clear o1 o2 o3 k0 k1 k2 k3 c0 c1 c2 c3
  go_cut [13] from 58 to 63 (fun v wx => v = .int .i64 ((sideV l4 q V : Nat) : Int) ∧ wx = w4)
  case first =>
    rcases (show l4 % 2 = 0 ∨ l4 % 2 = 1 by omega) with hp | hp
    · have hpi : (l4 : Int) % 2 = 0 := by omega
      have HSV : Hid (sideV l4 q V = V) := Lib.hid (if_pos hp)
      clear hp
      go_wp2_with fail
      go_meet
      case rel => rw [HSV.out]; exact ⟨rfl, rfl⟩
    · have hpi : (l4 : Int) % 2 = 1 := by omega
      have HSV : Hid (sideV l4 q V = q - V) := Lib.hid (if_neg (by omega))
      clear hp
      go_wp2_with fail
      go_meet
      case rel =>
        rw [HSV.out, show ((q - V : Nat) : Int) = (q : Int) - (V : Int) by omega]; exact ⟨rfl, rfl⟩
  obtain ⟨rfl, rfl⟩ := hcut
  obtain ⟨W, hW⟩ : ∃ x, sideV l4 q V = x := ⟨_, rfl⟩
  have HWV := Lib.hid hW
  rw [hW] at HSN ⊢
  have hW4 : W ≤ 4 := by rw [← hW]; unfold sideV; split <;> omega
  clear hW
  have hAL : Hid (allH h = lor (lor (lor (h 0) (h 1)) (h 2)) (h 3)) := Lib.hid rfl
  rw [← hAL.out]
  rcases Nat.lt_or_ge t5 4 with ht4 | ht4
  · have hne4 : ((t5 : Int) == 4) = false := by rw [beq_eq_false_iff_ne]; omega
    obtain ⟨tb, htb⟩ : ∃ x, 13 * t5 = x := ⟨_, rfl⟩
    have hti : 13 * (t5 : Int) = (tb : Int) := by omega
    have htb39 : tb ≤ 39 := by omega
    have HTB := Lib.hid htb
    have HT4' := Lib.hid ht4
    clear htb
    go_wp2_with fail
    go_loopg [19] 13 (fun gm i wx => ∃ (m : Nat) (cI : Int), gm = 13 - m ∧ m ≤ 13 ∧ i = .int .i64 cI ∧ cI + 1 + (m : Int) = (tb : Int) + 13 ∧ Hid (∀ x, tb + 13 - m ≤ x → x < tb + 13 → ∀ s, s < 4 → (h s).testBit x = false) ∧ wx = wc)
    case atStart => exact ⟨0, _, rfl, by omega, rfl, by simp; omega, Lib.hid (fun x h1 h2 => by omega), rfl⟩
    case round =>
      obtain ⟨m, cI, rfl, hm, rfl, hcI, HX, rfl⟩ := hrel
      by_cases hml : m < 13
      · obtain ⟨c, hc⟩ : ∃ c, tb + 12 - m = c := ⟨_, rfl⟩
        obtain rfl : cI = (c : Int) := by omega
        have hle : decide (tb ≤ c) = true := by simp; omega
        have hc52 : c < 52 := by omega
        have HC := Lib.hid hc
        clear hc hcI
        have c0 := (HR4.out.cell 0).trans (HPC.out 0 (by decide))
        have c1 := (HR4.out.cell 1).trans (HPC.out 1 (by decide))
        have c2 := (HR4.out.cell 2).trans (HPC.out 2 (by decide))
        have c3 := (HR4.out.cell 3).trans (HPC.out 3 (by decide))
        go_wp2_with fail
        clear c0 c1 c2 c3
        go_loopg [20, 21, 126] 4 (fun gj _ _ i wx => ∃ j : Nat, gj = 4 - j ∧ j ≤ 4 ∧ i = .int .i64 (j : Int) ∧ Hid (∀ s, s < j → (h s).testBit c = false) ∧ wx = wr)
        case atStart => exact ⟨0, rfl, by omega, rfl, Lib.hid (fun s hs => by omega), rfl⟩
        case round =>
          obtain ⟨j, rfl, hj, rfl, HJ, rfl⟩ := hrel
          by_cases hjl : j < 4
          · have hdj : decide ((j : Int) < 4) = true := by simp; omega
            have hidx := deA_ix h hjl
            have hWj := HD.out.w64 j
            have hsr := run_shr64 (h j) c .i64 hWj
            have hba := run_bit64 (h j) c hWj
            cases hb : (h j).testBit c
            · have HBB := Lib.hid hb
              go_wp2_with fail
              go_roundg (4 - (j + 1))
              case measure => omega
              case rel => exact ⟨j + 1, rfl, by omega, by simp, Lib.hid (fun s hs => by
                rcases Nat.lt_or_ge s j with h1 | h1
                · exact HJ.out s h1
                · obtain rfl : s = j := by omega
                  exact HBB.out), rfl⟩
            · have hone := HST.out c j hjl hb (by have := HC.out; have := HTB.out; omega) (fun s x hs hx hq => by
                rcases Nat.lt_or_ge c x with h1 | h1
                · exfalso
                  have := HX.out x (by have := HC.out; omega) (by have := HTB.out; omega) s hs
                  rw [this] at hx; cases hx
                · exact h1)
              have hw := HWV.out
              have hv := HVL.out
              unfold sideV at hone hw
              have HF : Hid (((j : Int) % 2 = 0 ∧ (l4 : Int) % 2 = 0 ∧ decide (0 < W) = true) ∨ ((j : Int) % 2 = 1 ∧ (l4 : Int) % 2 = 1 ∧ decide (0 < W) = true) ∨ ((j : Int) % 2 = 0 ∧ (l4 : Int) % 2 = 1 ∧ decide (W < q) = true) ∨ ((j : Int) % 2 = 1 ∧ (l4 : Int) % 2 = 0 ∧ decide (W < q) = true)) := Lib.hid (by
                rcases (show j % 2 = 0 ∨ j % 2 = 1 by omega) with e1 | e1 <;> rcases (show l4 % 2 = 0 ∨ l4 % 2 = 1 by omega) with e2 | e2
                · rw [if_pos e1] at hone; rw [if_pos e2] at hw
                  exact .inl ⟨by omega, by omega, decide_eq_true (by omega)⟩
                · rw [if_pos e1] at hone; rw [if_neg (by omega)] at hw
                  exact .inr (.inr (.inl ⟨by omega, by omega, decide_eq_true (by omega)⟩))
                · rw [if_neg (by omega)] at hone; rw [if_pos e2] at hw
                  exact .inr (.inr (.inr ⟨by omega, by omega, decide_eq_true (by omega)⟩))
                · rw [if_neg (by omega)] at hone; rw [if_neg (by omega)] at hw
                  exact .inr (.inl ⟨by omega, by omega, decide_eq_true (by omega)⟩))
              clear hone hw hv
              rcases HF.out with ⟨e1, e2, e3⟩ | ⟨e1, e2, e3⟩ | ⟨e1, e2, e3⟩ | ⟨e1, e2, e3⟩
              all_goals
                go_wp2_with fail
                refine (dm_awake _ HT4.out).mono ?_
                rintro e w6 ⟨rfl, hb6⟩
                have HB6 := Lib.hid (HB4.out.trans (hb6.mono HB4.out.size))
                clear hb6
                go_wp2_with fail
                go_ret
                exact ⟨rfl, HB6.out⟩
          · obtain rfl : j = 4 := by omega
            simp only [show ((4 : Nat) : Int) = 4 from rfl]
            go_wp2_with fail
            go_roundg (13 - (m + 1))
            case measure => omega
            case rel => exact ⟨m + 1, (c : Int) - 1, rfl, by omega, rfl, by have := HC.out; omega, Lib.hid (fun x h1 h2 s hs => by
              rcases Nat.lt_or_ge c x with h3 | h3
              · exact HX.out x (by have := HC.out; omega) h2 s hs
              · obtain rfl : x = c := by have := HC.out; omega
                exact HJ.out s hs), rfl⟩
      · obtain rfl : m = 13 := by omega
        have hle : decide ((tb : Int) ≤ cI) = false := by simp; omega
        have hlt : ¬ (tb : Int) ≤ cI := by omega
        go_wp2_with fail
        refine (dm_awake _ HT4.out).mono ?_
        rintro e w6 ⟨rfl, hb6⟩
        have HB6 := Lib.hid (HB4.out.trans (hb6.mono HB4.out.size))
        clear hb6
        go_wp2_with fail
        go_ret
        exact ⟨rfl, HB6.out⟩
  · obtain rfl : t5 = 4 := by have := HTL.out.1; omega
    simp only [show ((4 : Nat) : Int) = 4 from rfl] at c4
    have hs4 := HSN.out rfl
    have HS4 := Lib.hid hs4
    clear hs4 ht4
    go_wp2_with fail
    go_loopg [16, 67] 4 (fun gj _ i wr => ∃ j : Nat, gj = 4 - j ∧ j ≤ 4 ∧ i = .int .i64 (j : Int) ∧ wr = wc)
    case atStart => exact ⟨0, rfl, by omega, rfl, rfl⟩
    case round =>
      obtain ⟨j, rfl, hj, rfl, rfl⟩ := hrel
      by_cases hjl : j < 4
      · have hdj : decide ((j : Int) < 4) = true := by simp; omega
        obtain ⟨jb, hjb⟩ : ∃ x, 13 * j = x := ⟨_, rfl⟩
        have hji : 13 * (j : Int) = (jb : Int) := by omega
        have HJB := Lib.hid hjb
        clear hjb
        have hj52 : jb ≤ 39 := by have := HJB.out; omega
        have hWl := HD.out.w64 l4
        have hWA : W64 (allH h) := (((HD.out.w64 0).lor (HD.out.w64 1)).lor (HD.out.w64 2)).lor (HD.out.w64 3)
        have cl := (HR4.out.cell l4).trans (HPC.out l4 HTL.out.2)
        have hli : (l4 : Int) < 4 := by have := HTL.out; omega
        go_wp2_with fail
        go_loopg [17, 18] 13 (fun gm su i wx => ∃ (m k : Nat) (cI : Int), gm = 13 - m ∧ m ≤ 13 ∧ su = .int .i64 (k : Int) ∧ i = .int .i64 cI ∧ cI + 1 + (m : Int) = (jb : Int) + 13 ∧ k ≤ m ∧ Hid (k + cnt (h l4) (jb + 13 - m) = cnt (h l4) (jb + 13)) ∧ Hid (∀ x, jb + 13 - m ≤ x → x < jb + 13 → ∀ s, s < 4 → s ≠ l4 → (h s).testBit x = false) ∧ wx = wr)
        case atStart => exact ⟨0, 0, _, rfl, by omega, rfl, rfl, by simp; omega, by omega, Lib.hid (by rw [Nat.zero_add]; rfl), Lib.hid (fun x h1 h2 => by omega), rfl⟩
        case round =>
          obtain ⟨m, k, cI, rfl, hm, rfl, rfl, hcI, hkm, HK, HX, rfl⟩ := hrel
          have HKW : Hid (k ≤ W) := Lib.hid (HS4.out j (jb + 13 - m) k (by have := HJB.out; omega) (by rw [HJB.out]; exact Nat.le_of_eq HK.out) (fun s hs hne c hb hq => by
            rcases Nat.lt_or_ge c (jb + 13 - m) with h1 | h1
            · exact h1
            · have := HX.out c h1 (by have := HJB.out; omega) s hs hne
              rw [this] at hb; cases hb))
          by_cases hml : m < 13
          · obtain ⟨c, hc⟩ : ∃ c, jb + 12 - m = c := ⟨_, rfl⟩
            obtain rfl : cI = (c : Int) := by omega
            have hle : decide (jb ≤ c) = true := by simp; omega
            have hc52 : c < 52 := by omega
            have hsr1 := run_shr64 (allH h) c .i64 hWA
            have hba1 := run_bit64 (allH h) c hWA
            have hsr2 := run_shr64 (h l4) c .i64 hWl
            have hba2 := run_bit64 (h l4) c hWl
            have HC := Lib.hid hc
            clear hc hcI
            have hstep : ∀ b : Nat, b = ((h l4).testBit c).toNat → k + b + cnt (h l4) c = cnt (h l4) (jb + 13) := fun b hb => by
              have e : cnt (h l4) (c + 1) = cnt (h l4) c + ((h l4).testBit c).toNat := rfl
              have := HK.out
              rw [show jb + 13 - m = c + 1 by have := HC.out; omega, e] at this
              omega
            have HSTEP := Lib.hid hstep
            have hnext : (∀ s, s < 4 → s ≠ l4 → (h s).testBit c = false) → ∀ x, c ≤ x → x < jb + 13 → ∀ s, s < 4 → s ≠ l4 → (h s).testBit x = false := fun h0 x h1 h2 s hs hne => by
              rcases Nat.lt_or_ge c x with h3 | h3
              · exact HX.out x (by have := HC.out; omega) h2 s hs hne
              · obtain rfl : x = c := by omega
                exact h0 s hs hne
            have HNX := Lib.hid hnext
            clear hstep hnext
            cases ha : (allH h).testBit c
            · have hl0 := (allH_iff.1 ha) l4 HTL.out.2
              have HA := Lib.hid ha
              have hb0 : bitAt (h l4) c = 0 := by rw [bitAt_eq, hl0]; rfl
              have HL0 := Lib.hid hl0
              go_wp2_with fail
              go_roundg (13 - (m + 1))
              case measure => omega
              case rel => exact ⟨m + 1, k, (c : Int) - 1, rfl, by omega, rfl, rfl, by have := HC.out; omega, by omega, Lib.hid (by
                rw [show jb + 13 - (m + 1) = c by have := HC.out; omega]
                have := HSTEP.out 0 (by rw [HL0.out]; rfl)
                omega), Lib.hid (by
                rw [show jb + 13 - (m + 1) = c by have := HC.out; omega]
                exact HNX.out fun s hs _ => (allH_iff.1 HA.out) s hs), rfl⟩
            · cases hb : (h l4).testBit c
              · have hdw : decide (W < k) = false := by have := HKW.out; simp; omega
                go_wp2_with fail
                go_roundg (4 - (j + 1))
                case measure => omega
                case rel => exact ⟨j + 1, rfl, by omega, by simp, rfl⟩
              · have HBB := Lib.hid hb
                have hb1 : bitAt (h l4) c = 1 := by rw [bitAt_eq, hb]; rfl
                go_wp2_with fail
                go_roundg (13 - (m + 1))
                case measure => omega
                case rel => exact ⟨m + 1, k + 1, (c : Int) - 1, rfl, by omega, by simp, rfl, by have := HC.out; omega, by omega, Lib.hid (by
                  rw [show jb + 13 - (m + 1) = c by have := HC.out; omega]
                  exact HSTEP.out 1 (by rw [HBB.out]; rfl)), Lib.hid (by
                  rw [show jb + 13 - (m + 1) = c by have := HC.out; omega]
                  exact HNX.out fun s hs hne => by
                    cases hx : (h s).testBit c
                    · rfl
                    · exact absurd (HD.out.apart s l4 c hs HTL.out.2 hx HBB.out) hne), rfl⟩
          · obtain rfl : m = 13 := by omega
            have hle : decide ((jb : Int) ≤ cI) = false := by simp; omega
            have hlt : ¬ (jb : Int) ≤ cI := by omega
            have hdw : decide (W < k) = false := by have := HKW.out; simp; omega
            go_wp2_with fail
            go_roundg (4 - (j + 1))
            case measure => omega
            case rel => exact ⟨j + 1, rfl, by omega, by simp, rfl⟩
      · obtain rfl : j = 4 := by omega
        simp only [show ((4 : Nat) : Int) = 4 from rfl]
        go_wp2_with fail
        refine (dm_awake _ HT4.out).mono ?_
        rintro e w6 ⟨rfl, hb6⟩
        have HB6 := Lib.hid (HB4.out.trans (hb6.mono HB4.out.size))
        clear hb6
        go_wp2_with fail
        go_ret
        exact ⟨rfl, HB6.out⟩
end Go.Proofs.YtpobcaopfeddgaaDoor
