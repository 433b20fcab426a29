/- DrA, DrB, DrC, DrD in one text. -/
import Derived.Test.YtnbillhodbcfbaaDoorDmPd
import Derived.Deep.LoopGhost
import Derived.Test.YtnbillhodbcfbaaDoorDmRb

/- The reference of chapter 15 over this seat's program: has, size, hasSuit. -/
namespace Go.Proofs.YtnbillhodbcfbaaDoor
open Go.RowKit Go.Shelf Go.Sort

theorem cntLe (m : Nat) : ∀ k, cnt m k ≤ k
  | 0 => Nat.le_refl _
  | k + 1 => by have := cntLe m k; rw [cnt]; cases m.testBit k <;> simp <;> omega
theorem has_bit2 (h c : Nat) : (((shr h c : Nat) : Int) % 2 == 1) = h.testBit c := by
  rw [Nat.testBit_eq_decide_div_mod_eq, Bool.eq_iff_iff, beq_iff_eq, decide_eq_true_eq]
  unfold shr
  rw [Nat.shiftRight_eq_div_pow]
  omega
theorem big_bit {h c : Nat} (hw : W64 h) (hc : 64 ≤ c) : h.testBit c = false :=
  Nat.testBit_lt_two_pow (Nat.lt_of_lt_of_le hw.lt (Nat.pow_le_pow_right (by decide) hc))
theorem dr_has (h c : Nat) (hw : W64 h) (w : World) :
    Calls Tryd.prog 77 #[.int .u64 (h : Int), .int .i64 (c : Int)] w fun e w' => e = .returned (.bool (h.testBit c)) ∧ w = w' := by
  have HB := Lib.hid (has_bit2 h c)
  by_cases hc : c < 64
  · have hci : (c : Int) < 64 := by omega
    go_enter Tryd.func77, Tryd.ntmps77
    go_wp2
    go_ret
    exact ⟨by rw [HB.out]; rfl, rfl⟩
  · have hci : ¬ (c : Int) < 64 := by omega
    have HF := Lib.hid (big_bit hw (show 64 ≤ c by omega))
    go_enter Tryd.func77, Tryd.ntmps77
    go_wp2
    go_ret
    exact ⟨by rw [HF.out]; rfl, rfl⟩
theorem dr_size (h : Nat) (hw : W64 h) (w : World) :
    Calls Tryd.prog 76 #[.int .u64 (h : Int)] w fun e w' => e = .returned (.int .i64 (pop h : Int)) ∧ w = w' := by
  have HH := Lib.hid (fun c W => dr_has h c hw W)
  clear hw
  go_enter Tryd.func76, Tryd.ntmps76
  go_wp2
  go_loop [3, 4] (fun n c => ∃ k : Nat, k ≤ 64 ∧ c = .int .i64 (k : Int) ∧ n = .int .i64 (cnt h k : Int)) (fun _ c => 64 - (intOf c).toNat)
  case atStart => exact ⟨0, by omega, rfl, rfl⟩
  case round =>
    obtain ⟨k, hk, rfl, rfl⟩ := hrel
    by_cases hlt : k < 64
    · have hle := cntLe h k
      have HS := Lib.hid (show cnt h (k + 1) = (if h.testBit k then 1 else 0) + cnt h k from by rw [cnt]; cases h.testBit k <;> simp <;> omega)
      generalize cnt h k = m at *
      cases hb : h.testBit k
      · have HB := Lib.hid hb
        clear hb
        go_wp2_with (go_at_call 77; refine (HH.out k w).mono ?_; rw [HB.out]; rintro e w' ⟨rfl, rfl⟩)
        go_round
        case rel => exact ⟨k + 1, by omega, by go_num, by rw [HS.out, HB.out]; simp⟩
        case measure => simp [intOf]; omega
      · have HB := Lib.hid hb
        clear hb
        go_wp2_with (go_at_call 77; refine (HH.out k w).mono ?_; rw [HB.out]; rintro e w' ⟨rfl, rfl⟩)
        go_round
        case rel => exact ⟨k + 1, by omega, by go_num, by rw [HS.out, HB.out]; simp; omega⟩
        case measure => simp [intOf]; omega
    · have : k = 64 := by omega
      subst this
      go_wp2
      go_ret
      exact ⟨rfl, rfl⟩
theorem suit_some {h s c : Nat} (hb : h.testBit c = true) (h1 : 13 * s ≤ c) (h2 : c < 13 * s + 13) : (land h (suitM s) != 0) = true := by
  rw [bne_iff_ne]
  intro e
  have : (land h (suitM s)).testBit c = true := by rw [testBit_land, hb, suitM_bit, decide_eq_true (by omega)]; rfl
  rw [e, Nat.zero_testBit] at this
  cases this
theorem suit_none {h s : Nat} (hn : ∀ c, 13 * s ≤ c → c < 13 * s + 13 → h.testBit c = false) : (land h (suitM s) != 0) = false := by
  rw [bne_eq_false_iff_eq]
  apply Nat.eq_of_testBit_eq
  intro c
  rw [testBit_land, suitM_bit, Nat.zero_testBit]
  by_cases e : c / 13 = s
  · rw [hn c (by omega) (by omega)]; rfl
  · rw [decide_eq_false e, Bool.and_false]
theorem dr_hasSuit (h s : Nat) (hw : W64 h) (hs : s < 256) (w : World) :
    Calls Tryd.prog 78 #[.int .u64 (h : Int), .int .i64 (s : Int)] w fun e w' => e = .returned (.bool (land h (suitM s) != 0)) ∧ w = w' := by
  have HH := Lib.hid (fun c W => dr_has h c hw W)
  have HY := Lib.hid (fun c => @suit_some h s c)
  have HN := Lib.hid (@suit_none h s)
  generalize (land h (suitM s) != 0) = R at *
  clear hw
  go_enter Tryd.func78, Tryd.ntmps78
  go_wp2
  obtain ⟨m, hm⟩ : ∃ m, 13 * s = m := ⟨_, rfl⟩
  have hmi : 13 * (s : Int) = (m : Int) := by omega
  have hm4 : m < 4096 := by omega
  rw [hm] at HY HN
  rw [hmi]
  clear hm hs
  go_loop [5] (fun c => ∃ k : Nat, m ≤ k ∧ k ≤ m + 13 ∧ c = .int .i64 (k : Int) ∧ ∀ c, m ≤ c → c < k → h.testBit c = false) (fun c => m + 13 - (intOf c).toNat)
  case atStart => exact ⟨m, Nat.le_refl _, by omega, rfl, fun c h1 h2 => by omega⟩
  case round =>
    obtain ⟨k, hk1, hk2, rfl, hno⟩ := hrel
    have HNO := Lib.hid hno
    clear hno
    by_cases hlt : k < m + 13
    · cases hb : h.testBit k
      · have HB := Lib.hid hb
        clear hb
        go_wp2_with (go_at_call 77; refine (HH.out k w).mono ?_; rw [HB.out]; rintro e w' ⟨rfl, rfl⟩)
        go_round
        case rel => exact ⟨k + 1, by omega, by omega, by go_num, fun c h1 h2 => by
          rcases Nat.lt_or_ge c k with h3 | h3
          · exact HNO.out c h1 h3
          · obtain rfl : c = k := by omega
            exact HB.out⟩
        case measure => simp [intOf]; omega
      · have HB := Lib.hid hb
        clear hb
        go_wp2_with (go_at_call 77; refine (HH.out k w).mono ?_; rw [HB.out]; rintro e w' ⟨rfl, rfl⟩)
        go_ret
        exact ⟨by rw [HY.out k HB.out hk1 hlt]; rfl, rfl⟩
    · have : k = m + 13 := by omega
      subst this
      have hd : decide (((m + 13 : Nat) : Int) < (m : Int) + 13) = false := by simp
      go_wp2
      go_ret
      exact ⟨by rw [HN.out fun c h1 h2 => HNO.out c h1 h2]; rfl, rfl⟩
end Go.Proofs.YtnbillhodbcfbaaDoor

/- The reference of chapter 15 over this seat's program: apart, Turn. -/
namespace Go.Proofs.YtnbillhodbcfbaaDoor
open Go.RowKit Go.Shelf Go.Sort

/-- how many of the first k hands have a card -/
def holdC (h : Nat → Nat) (c : Nat) : Nat → Nat
  | 0 => 0
  | k + 1 => holdC h c k + (if (h k).testBit c then 1 else 0)
def badC (h : Nat → Nat) (c : Nat) : Bool := decide (1 < holdC h c 4) || (decide (0 < holdC h c 4) && decide (52 ≤ c))
theorem holdC_le (h : Nat → Nat) (c : Nat) : ∀ k, holdC h c k ≤ k
  | 0 => Nat.le_refl _
  | k + 1 => by have := holdC_le h c k; unfold holdC; split <;> omega
theorem holdC_pos (h : Nat → Nat) (c : Nat) : ∀ k, 0 < holdC h c k ↔ ∃ s, s < k ∧ (h s).testBit c = true
  | 0 => ⟨fun h => by simp [holdC] at h, fun ⟨s, hs, _⟩ => by omega⟩
  | k + 1 => by
    have ih := holdC_pos h c k
    unfold holdC
    constructor
    · intro hp
      by_cases hb : (h k).testBit c = true
      · exact ⟨k, by omega, hb⟩
      · rw [if_neg hb, Nat.add_zero, ih] at hp
        obtain ⟨s, hs, hx⟩ := hp
        exact ⟨s, by omega, hx⟩
    · rintro ⟨s, hs, hx⟩
      by_cases e : s = k
      · subst e; rw [if_pos hx]; omega
      · have := ih.2 ⟨s, by omega, hx⟩; omega
theorem holdC_two (h : Nat → Nat) (c : Nat) : ∀ k, 1 < holdC h c k ↔ ∃ s s', s < s' ∧ s' < k ∧ (h s).testBit c = true ∧ (h s').testBit c = true
  | 0 => ⟨fun h => by simp [holdC] at h, fun ⟨s, s', _, hs, _⟩ => by omega⟩
  | k + 1 => by
    have ih := holdC_two h c k
    have ip := holdC_pos h c k
    unfold holdC
    constructor
    · intro hp
      by_cases hb : (h k).testBit c = true
      · rw [if_pos hb] at hp
        obtain ⟨s, hs, hx⟩ := ip.1 (by omega)
        exact ⟨s, k, hs, by omega, hx, hb⟩
      · rw [if_neg hb, Nat.add_zero, ih] at hp
        obtain ⟨s, s', h1, h2, h3⟩ := hp
        exact ⟨s, s', h1, by omega, h3⟩
    · rintro ⟨s, s', h1, h2, h3, h4⟩
      by_cases e : s' = k
      · subst e; rw [if_pos h4]; have := ip.2 ⟨s, h1, h3⟩; omega
      · have := ih.2 ⟨s, s', h1, by omega, h3, h4⟩; omega
theorem apart_ok {h : Nat → Nat} (hw : ∀ s, W64 (h s)) : handsOk h 4 = true ↔ ∀ c, c < 64 → badC h c = false := by
  rw [handsOk_iff]
  constructor
  · rintro ⟨h1, h2⟩ c _
    unfold badC
    rw [Bool.or_eq_false_iff, decide_eq_false_iff_not, Bool.and_eq_false_iff, decide_eq_false_iff_not, decide_eq_false_iff_not]
    refine ⟨fun h3 => ?_, ?_⟩
    · obtain ⟨s, s', a, b, x, y⟩ := (holdC_two h c 4).1 h3
      have := h2 s s' c (by omega) b x y
      omega
    · by_cases hp : 0 < holdC h c 4
      · obtain ⟨s, hs, hx⟩ := (holdC_pos h c 4).1 hp
        have := h1 s hs c hx
        exact .inr (by omega)
      · exact .inl hp
  · intro hb
    have hlt : ∀ s c, (h s).testBit c = true → c < 64 := fun s c hx => by
      rcases Nat.lt_or_ge c 64 with hc | hc
      · exact hc
      · rw [big_bit (hw s) hc] at hx; cases hx
    have hb' : ∀ c, c < 64 → ¬ 1 < holdC h c 4 ∧ (0 < holdC h c 4 → c < 52) := fun c hc => by
      have := hb c hc
      unfold badC at this
      rw [Bool.or_eq_false_iff, decide_eq_false_iff_not, Bool.and_eq_false_iff, decide_eq_false_iff_not, decide_eq_false_iff_not] at this
      exact ⟨this.1, fun hp => by rcases this.2 with h | h; exact (h hp).elim; omega⟩
    refine ⟨fun s hs c hx => (hb' c (hlt s c hx)).2 ((holdC_pos h c 4).2 ⟨s, hs, hx⟩), fun s s' c hs hs' hx hy => ?_⟩
    rcases Nat.lt_trichotomy s s' with e | e | e
    · exact ((hb' c (hlt s c hx)).1 ((holdC_two h c 4).2 ⟨s, s', e, hs', hx, hy⟩)).elim
    · exact e
    · exact ((hb' c (hlt s c hx)).1 ((holdC_two h c 4).2 ⟨s', s, e, hs, hy, hx⟩)).elim
set_option maxHeartbeats 1000000 in
theorem dr_apart (h : Nat → Nat) (hw : ∀ s, W64 (h s)) (w : World) :
    Calls Tryd.prog 75 #[.agg (deA h)] w fun e w' => e = .returned (.bool (handsOk h 4)) ∧ Below w.heap.size w w' := by
  have HH := Lib.hid (fun s c W => dr_has (h s) c (hw s) W)
  have HOK := Lib.hid (apart_ok hw)
  have HR := Lib.hid (Row.new w 24 (deA h))
  have HBW := Lib.hid ((Below.refl w.heap.size w).alloc (Nat.le_refl _) (.cells (deA h) 24))
  obtain ⟨DA, hDA⟩ : ∃ A, deA h = A := ⟨_, rfl⟩
  have HDC : Hid (∀ s, s < 4 → DA[s]? = some (.int .u64 (h s : Int))) := Lib.hid (by
    rw [← hDA]
    intro s hs
    rcases (show s = 0 ∨ s = 1 ∨ s = 2 ∨ s = 3 by omega) with rfl | rfl | rfl | rfl <;> rfl)
  rw [hDA] at HR HBW ⊢
  generalize handsOk h 4 = R at *
  clear hw hDA
  go_enter Tryd.func75, Tryd.ntmps75
  go_wp2
  generalize w.alloc (.cells DA 24) = w1 at *
  obtain ⟨b0, hb0⟩ : ∃ b, w.heap.size = b := ⟨_, rfl⟩
  rw [hb0] at HR ⊢
  clear hb0
  go_loop [3, 4, 5] (fun c _ _ => ∃ k : Nat, k ≤ 64 ∧ c = .int .i64 (k : Int) ∧ ∀ c, c < k → badC h c = false) (fun c _ _ => 64 - (intOf c).toNat)
  case atStart => exact ⟨0, by omega, rfl, fun c h => by omega⟩
  case round =>
    obtain ⟨k, hk, rfl, hno⟩ := hrel
    have HNO := Lib.hid hno
    clear hno
    by_cases hlt : k < 64
    · go_wp2
      go_loop [4, 5] (fun n i => ∃ s : Nat, s ≤ 4 ∧ i = .int .i64 (s : Int) ∧ n = .int .i64 (holdC h k s : Int)) (fun _ i => 4 - (intOf i).toNat)
      case atStart => exact ⟨0, by omega, rfl, rfl⟩
      case round =>
        obtain ⟨s, hs, rfl, rfl⟩ := hrel
        have hle := holdC_le h k s
        by_cases hsl : s < 4
        · have HS := Lib.hid (show holdC h k (s + 1) = holdC h k s + (if (h s).testBit k then 1 else 0) from rfl)
          generalize holdC h k s = m at *
          have cs := (HR.out.cell s).trans (HDC.out s hsl)
          have hsi : (s : Int) < 4 := by omega
          cases hb : (h s).testBit k
          · have HB := Lib.hid hb
            clear hb
            go_wp2_with (go_at_call 77; refine (HH.out s k w1).mono ?_; rw [HB.out]; rintro e w' ⟨rfl, rfl⟩)
            go_round
            case rel => exact ⟨s + 1, by omega, by go_num, by rw [HS.out, HB.out]; simp⟩
            case measure => simp [intOf]; omega
          · have HB := Lib.hid hb
            clear hb
            go_wp2_with (go_at_call 77; refine (HH.out s k w1).mono ?_; rw [HB.out]; rintro e w' ⟨rfl, rfl⟩)
            go_round
            case rel => exact ⟨s + 1, by omega, by go_num, by rw [HS.out, HB.out]; simp⟩
            case measure => simp [intOf]; omega
        · obtain rfl : s = 4 := by omega
          have HBD := Lib.hid (show badC h k = (decide (1 < holdC h k 4) || (decide (0 < holdC h k 4) && decide (52 ≤ k))) from rfl)
          generalize holdC h k 4 = m at *
          simp only [show ((4 : Nat) : Int) = 4 from rfl]
          rcases (show 1 < m ∨ (m = 1 ∧ 52 ≤ k) ∨ ((m = 0 ∨ m = 1) ∧ ¬ (m = 1 ∧ 52 ≤ k)) by omega) with hm | ⟨rfl, h52⟩ | ⟨hm, hn⟩
          · have HT : Hid (badC h k = true) := Lib.hid (by rw [HBD.out, decide_eq_true hm]; rfl)
            go_wp2
            go_ret
            refine ⟨?_, HBW.out⟩
            cases R
            · rfl
            · have := HOK.out.1 rfl k hlt; rw [HT.out] at this; cases this
          · have HT : Hid (badC h k = true) := Lib.hid (by rw [HBD.out, decide_eq_true h52]; rfl)
            go_wp2
            go_ret
            refine ⟨?_, HBW.out⟩
            cases R
            · rfl
            · have := HOK.out.1 rfl k hlt; rw [HT.out] at this; cases this
          · have HT : Hid (badC h k = false) := Lib.hid (by
              rw [HBD.out, decide_eq_false (by omega), Bool.false_or, Bool.and_eq_false_iff, decide_eq_false_iff_not, decide_eq_false_iff_not]
              omega)
            have h1 : ¬ (1 : Int) < (m : Int) := by omega
            rcases hm with rfl | rfl
            · clear hn
              simp only [show ((0 : Nat) : Int) = 0 from rfl] at h1 ⊢
              go_wp2
              go_round
              case rel => exact ⟨k + 1, by omega, by go_num, fun c hc => by
                rcases Nat.lt_or_ge c k with e | e
                · exact HNO.out c e
                · obtain rfl : c = k := by omega
                  exact HT.out⟩
              case measure => simp [intOf]; omega
            · have h52 : ¬ (52 : Int) ≤ (k : Int) := by omega
              clear hn
              simp only [show ((1 : Nat) : Int) = 1 from rfl] at h1 ⊢
              go_wp2
              go_round
              case rel => exact ⟨k + 1, by omega, by go_num, fun c hc => by
                rcases Nat.lt_or_ge c k with e | e
                · exact HNO.out c e
                · obtain rfl : c = k := by omega
                  exact HT.out⟩
              case measure => simp [intOf]; omega
    · obtain rfl : k = 64 := by omega
      simp only [show ((64 : Nat) : Int) = 64 from rfl]
      go_wp2
      go_ret
      refine ⟨?_, HBW.out⟩
      rw [HOK.out.2 HNO.out]; rfl
theorem dr_Turn (h : Nat → Nat) (tr ld n : Nat) (a : Option Addr) (cap : Nat) (hl : ld < 256) (hn : n ≤ 140737488351232) (w : World) :
    Calls Tryd.prog 57 #[.agg (posA h tr ld (.slice a n cap))] w fun e w' => e = .returned (.int .i64 (((ld + n) % 4 : Nat) : Int)) ∧ Below w.heap.size w w' := by
  have HT : Hid (((ld : Int) + (n : Int)) % 4 = (((ld + n) % 4 : Nat) : Int)) := Lib.hid (by omega)
  have HB := Lib.hid ((Below.refl w.heap.size w).alloc (Nat.le_refl _) (.cells (posA h tr ld (.slice a n cap)) 62))
  unfold posA at HB ⊢
  go_enter Tryd.func57, Tryd.ntmps57
  go_wp2_with fail
  go_ret
  exact ⟨congrArg (fun x => Ending.returned (Value.int .i64 x)) HT.out, HB.out⟩
end Go.Proofs.YtnbillhodbcfbaaDoor

/- The reference of chapter 15 over this seat's program: Right. -/
namespace Go.Proofs.YtnbillhodbcfbaaDoor
open Go.RowKit Go.Shelf Go.Sort

/-- what the reference asks of the i-th seat from the leader on -/
def stepP (h : Nat → Nat) (ld : Nat) (ps : List Nat) (q i : Nat) : Prop :=
  if ps.length ≤ i then pop (h ((ld + i) % 4)) = q else pop (h ((ld + i) % 4)) + 1 = q ∧ ps.getD i 0 < 52 ∧ (∀ k, k < 4 → (h k).testBit (ps.getD i 0) = false ∧ (k < i → ps.getD k 0 ≠ ps.getD i 0)) ∧ (ps.getD i 0 / 13 = ps.getD 0 0 / 13 ∨ land (h ((ld + i) % 4)) (suitM (ps.getD 0 0 / 13)) = 0)
theorem right_ref (h : Nat → Nat) (tr ld : Nat) (ps : List Nat) : rightB h tr ld ps = true ↔ tr ≤ 4 ∧ ld ≤ 3 ∧ ps.length ≤ 3 ∧ handsOk h 4 = true ∧ pop (h ((ld + ps.length) % 4)) ≤ 6 ∧ ¬ (pop (h ((ld + ps.length) % 4)) = 0 ∧ 0 < ps.length) ∧ ∀ i, i < 4 → stepP h ld ps (pop (h ((ld + ps.length) % 4))) i := by
  unfold rightB evenB
  generalize pop (h ((ld + ps.length) % 4)) = q
  simp only [Bool.and_eq_true, decide_eq_true_eq, Bool.not_eq_true', Bool.and_eq_false_iff, decide_eq_false_iff_not]
  rw [evenTo_iff, playOk_iff, followTo_iff]
  constructor
  · rintro ⟨⟨⟨⟨⟨⟨h1, h2⟩, h3⟩, h4⟩, h5, h6, h7⟩, ⟨h8, h9⟩, h10⟩, h11⟩
    refine ⟨h1, h2, h3, h4, h8, by omega, fun i hi => ?_⟩
    have he := h10 i hi
    unfold stepP
    by_cases hl : ps.length ≤ i
    · rw [if_pos hl]; rw [if_neg (by omega)] at he; exact he
    · rw [if_neg hl]; rw [if_pos (by omega)] at he
      exact ⟨he, h5 i (by omega), fun k hk => ⟨h6 i k (by omega) hk, fun hki => h7 k i hki (by omega)⟩, h11 i (by omega)⟩
  · rintro ⟨h1, h2, h3, h4, h8, h9, hs⟩
    have hs' : ∀ i, i < ps.length → pop (h ((ld + i) % 4)) + 1 = q ∧ ps.getD i 0 < 52 ∧ (∀ k, k < 4 → (h k).testBit (ps.getD i 0) = false ∧ (k < i → ps.getD k 0 ≠ ps.getD i 0)) ∧ (ps.getD i 0 / 13 = ps.getD 0 0 / 13 ∨ land (h ((ld + i) % 4)) (suitM (ps.getD 0 0 / 13)) = 0) := fun i hi => by
      have := hs i (by omega)
      unfold stepP at this
      rwa [if_neg (by omega)] at this
    refine ⟨⟨⟨⟨⟨⟨h1, h2⟩, h3⟩, h4⟩, fun i hi => (hs' i hi).2.1, fun i s hi hs => ((hs' i hi).2.2.1 s hs).1, fun i j hij hj => ((hs' j hj).2.2.1 i (by omega)).2 hij⟩, ⟨h8, by omega⟩, fun i hi => ?_⟩, fun i hi => (hs' i hi).2.2.2⟩
    have := hs i hi
    unfold stepP at this
    by_cases hl : ps.length ≤ i
    · rw [if_pos hl] at this; rw [if_neg (by omega)]; exact this
    · rw [if_neg hl] at this; rw [if_pos (by omega)]; exact this.1
theorem no_ref {R : Bool} (h : R = true → False) : R = false := by
  cases R
  · rfl
  · exact (h rfl).elim
theorem size_rpos : (Tryd.prog.info? 62).map (·.size) = some 7 := by kernel_rfl
set_option maxHeartbeats 4000000 in
set_option maxRecDepth 10000 in
theorem dr_Right (h : Nat → Nat) (tr ld : Nat) (ps : List Nat) (a : Option Addr) (cap : Nat) (hw : ∀ s, W64 (h s)) (htr : tr < 256) (hld : ld < 256) (w : World) (hz : Byt w a ps.length ps) :
    Calls Tryd.prog 53 #[.agg (posA h tr ld (.slice a ps.length cap))] w fun e w' => e = .returned (.bool (rightB h tr ld ps)) ∧ Below w.heap.size w w' := by
  have HW := Lib.hid hw
  have HRR := Lib.hid (right_ref h tr ld ps)
  have HAP := Lib.hid (fun W => dr_apart h hw W)
  have HTU := Lib.hid (fun W => dr_Turn h tr ld ps.length a cap hld (by have := hz.small; omega) W)
  have HR0 := Lib.hid (Row.new w 62 (posA h tr ld (.slice a ps.length cap)))
  have hb1 := (Below.refl w.heap.size w).alloc (Nat.le_refl _) (.cells (posA h tr ld (.slice a ps.length cap)) 62)
  have HB1 := Lib.hid hb1
  have HZ1 := Lib.hid (hz.below (Nat.le_refl _) hb1)
  obtain ⟨PA, hPA⟩ : ∃ A, posA h tr ld (.slice a ps.length cap) = A := ⟨_, rfl⟩
  have HPC : Hid (∀ s, s < 4 → PA[s]? = some (.int .u64 (h s : Int))) := Lib.hid (by rw [← hPA]; exact fun s hs => posA_h _ _ _ _ hs)
  have HP4 : Hid (PA[4]? = some (.int .u8 (tr : Int)) ∧ PA[5]? = some (.int .u8 (ld : Int)) ∧ PA[6]? = some (.slice a ps.length cap)) := Lib.hid (by rw [← hPA]; exact ⟨rfl, rfl, rfl⟩)
  have HPZ : Hid (PA.size = 7) := Lib.hid (by rw [← hPA]; rfl)
  have hsm := hz.small
  rw [hPA] at HTU HR0 HB1 HZ1 ⊢
  generalize rightB h tr ld ps = R at *
  clear hPA hw hz hb1
  simp only [deA] at HAP
  go_enter Tryd.func53, Tryd.ntmps53
  go_upto_region 1 with fail
  generalize w.alloc (.cells PA 62) = w1 at *
  have HLE : Hid (w.heap.size ≤ w1.heap.size) := Lib.hid HB1.out.size
  obtain ⟨b0, hb0⟩ : ∃ b, w.heap.size = b := ⟨_, rfl⟩
  rw [hb0] at HR0 ⊢
  have HB0 := Lib.hid hb0
  clear hb0
  have c0 := (HR0.out.cell 0).trans (HPC.out 0 (by decide))
  have c1 := (HR0.out.cell 1).trans (HPC.out 1 (by decide))
  have c2 := (HR0.out.cell 2).trans (HPC.out 2 (by decide))
  have c3 := (HR0.out.cell 3).trans (HPC.out 3 (by decide))
  have c4 := (HR0.out.cell 4).trans HP4.out.1
  have c5 := (HR0.out.cell 5).trans HP4.out.2.1
  have c6 := (HR0.out.cell 6).trans HP4.out.2.2
  obtain ⟨n, hn⟩ : ∃ n, ps.length = n := ⟨_, rfl⟩
  have HN := Lib.hid hn
  rw [hn] at HTU HZ1 HP4 c6 hsm HRR
  clear hn
  by_cases ht : 4 < tr
  · have hti : (4 : Int) < (tr : Int) := by omega
    have HF : Hid (R = false) := Lib.hid (no_ref fun e => by have := HRR.out.1 e; omega)
    clear ht
    go_wp2_with fail
    go_ret
    exact ⟨by rw [HF.out]; rfl, HB1.out⟩
  have hti : ¬ (4 : Int) < (tr : Int) := by omega
  by_cases hl : 3 < ld
  · have hli : (3 : Int) < (ld : Int) := by omega
    have HF : Hid (R = false) := Lib.hid (no_ref fun e => by have := HRR.out.1 e; omega)
    clear ht hl
    go_wp2_with fail
    go_ret
    exact ⟨by rw [HF.out]; rfl, HB1.out⟩
  have hli : ¬ (3 : Int) < (ld : Int) := by omega
  by_cases hn3 : 3 < n
  · have hni : (3 : Int) < (n : Int) := by omega
    have HF : Hid (R = false) := Lib.hid (no_ref fun e => by have := HRR.out.1 e; omega)
    clear ht hl hn3
    go_wp2_with fail
    go_ret
    exact ⟨by rw [HF.out]; rfl, HB1.out⟩
  have hni : ¬ (3 : Int) < (n : Int) := by omega
  have HLN : Hid (tr ≤ 4 ∧ ld ≤ 3 ∧ n ≤ 3) := Lib.hid (by omega)
  clear ht hl hn3
  go_wp2_with fail
  refine (HAP.out _).mono ?_
  rintro e w2 ⟨rfl, hb2⟩
  have HR2 := Lib.hid (HR0.out.later hb2)
  have HB2 := Lib.hid (HB1.out.trans (hb2.mono HLE.out))
  have HZ2 := Lib.hid (HZ1.out.below (Nat.le_refl _) hb2)
  clear hb2 c0 c1 c2 c3 c4 c5 c6
  cases hap : handsOk h 4
  · have HF : Hid (R = false) := Lib.hid (no_ref fun e => by have := (HRR.out.1 e).2.2.2.1; rw [hap] at this; cases this)
    clear hap
    go_wp2_with fail
    go_ret
    exact ⟨by rw [HF.out]; rfl, HB2.out⟩
  have HAO := Lib.hid hap
  clear hap
  obtain ⟨s0, hs0⟩ : ∃ s, (ld + n) % 4 = s := ⟨_, rfl⟩
  have hs4 : s0 < 4 := by omega
  rw [hs0] at HTU HRR
  obtain ⟨q, hq⟩ : ∃ q, pop (h s0) = q := ⟨_, rfl⟩
  rw [hq] at HRR
  have HSZ := Lib.hid (fun W => dr_size (h s0) (HW.out s0) W)
  rw [hq] at HSZ
  have hq64 : q ≤ 64 := by rw [← hq]; exact cntLe _ _
  clear hs0 hq
  go_wp2_with (refine wpList_load_row rfl 62 (.tmp 1) rfl b0 rfl 62 PA (0, 0) _ HR2.out Tryd.underlying62 rfl (by rw [HPZ.out]; exact size_rpos) ?_)
  refine (HTU.out _).mono ?_
  rintro e w3 ⟨rfl, hb3⟩
  have HR3 := Lib.hid (HR2.out.later hb3)
  have HB3 := Lib.hid (HB2.out.trans (hb3.mono HB2.out.size))
  have HZ3 := Lib.hid (HZ2.out.below (Nat.le_refl _) hb3)
  clear hb3
  have cs := (HR3.out.cell s0).trans (HPC.out s0 hs4)
  have hs4i : (s0 : Int) < 4 := by omega
  go_wp2_with fail
  refine (HSZ.out _).mono ?_
  rintro e w4 ⟨rfl, rfl⟩
  clear cs
  have c6 := (HR3.out.cell 6).trans HP4.out.2.2
  by_cases hq6 : 6 < q
  · have hqi : (6 : Int) < (q : Int) := by omega
    have HF : Hid (R = false) := Lib.hid (no_ref fun e => by have := HRR.out.1 e; omega)
    clear hq6
    go_wp2_with fail
    go_ret
    exact ⟨by rw [HF.out]; rfl, HB3.out⟩
  have hqi : ¬ (6 : Int) < (q : Int) := by omega
  have HQ6 : Hid (q ≤ 6) := Lib.hid (by omega)
  by_cases hq0 : q = 0 ∧ 0 < n
  · have HF : Hid (R = false) := Lib.hid (no_ref fun e => by have := HRR.out.1 e; omega)
    have hq1 : (q : Int) < 1 := by omega
    have hn0 : (0 : Int) < (n : Int) := by omega
    clear hq6 hq0
    go_wp2_with fail
    go_ret
    exact ⟨by rw [HF.out]; rfl, HB3.out⟩
  have HRR2 : Hid (R = true ↔ ∀ i, i < 4 → stepP h ld ps q i) := Lib.hid ⟨fun e => (HRR.out.1 e).2.2.2.2.2.2, fun e => HRR.out.2 ⟨HLN.out.1, HLN.out.2.1, HLN.out.2.2, HAO.out, HQ6.out, hq0, e⟩⟩
  have HNQ : Hid (0 < n → 0 < q) := Lib.hid (by omega)
  have HNN : Hid (n = 0 ∨ 0 < n) := Lib.hid (by omega)
  have HN4 : Hid (n = 0 → ps = []) := Lib.hid (fun e => List.length_eq_zero_iff.1 (by rw [HN.out, e]))
  clear hq0
  go_upto_region 4 with fail
  go_cut [46] from 35 to 45 (fun t W => t = .bool false ∧ W = w3)
  case first =>
    rcases HNN.out with hn0 | hn0
    · obtain ⟨rfl⟩ : n = 0 := hn0
      simp only [show ((0 : Nat) : Int) = 0 from rfl] at c6 hni ⊢
      go_wp2_with fail
      go_meet
      case rel => exact ⟨by simp; omega, rfl⟩
    · have hq1 : ¬ (q : Int) < 1 := by have := HNQ.out hn0; omega
      have hn1 : (0 : Int) < (n : Int) := by omega
      clear hn0
      go_wp2_with fail
      go_meet
      case rel => exact ⟨by simp; omega, rfl⟩
  case rest =>
    obtain ⟨rfl, hwc⟩ := hcut
    rw [hwc]
    clear hwc
    have HC6 := Lib.hid c6
    clear c6 hni hti hli
    go_wp2_with fail
    go_loop [4] (fun i => ∃ j : Nat, j ≤ 4 ∧ i = .int .i64 (j : Int) ∧ ∀ k, k < j → stepP h ld ps q k) (fun i => 4 - (intOf i).toNat)
    case atStart => exact ⟨0, by omega, rfl, fun k hk => by omega⟩
    case round =>
      obtain ⟨j, hj, rfl, hst⟩ := hrel
      have HST := Lib.hid hst
      clear hst
      by_cases hlt : j < 4
      · obtain ⟨s, hs⟩ : ∃ s, (ld + j) % 4 = s := ⟨_, rfl⟩
        have hs4 : s < 4 := by omega
        have hsi : ((ld : Int) + (j : Int)) % 4 = (s : Int) := by omega
        have hs4i : (s : Int) < 4 := by omega
        have HS := Lib.hid hs
        have HSZ2 := Lib.hid (fun W => dr_size (h s) (HW.out s) W)
        have HHS := Lib.hid (fun x (hx : x < 256) W => dr_hasSuit (h s) x (HW.out s) hx W)
        obtain ⟨p, hp⟩ : ∃ p, pop (h s) = p := ⟨_, rfl⟩
        have hp64 : p ≤ 64 := by rw [← hp]; exact cntLe _ _
        have HP := Lib.hid hp
        rw [hp] at HSZ2
        have c5 := (HR3.out.cell 5).trans HP4.out.2.1
        have c6 := HC6.out
        have cs := (HR3.out.cell s).trans (HPC.out s hs4)
        have HNX : Hid (stepP h ld ps q j → ∀ k, k < j + 1 → stepP h ld ps q k) := Lib.hid (fun hx k hk => by
          rcases Nat.lt_or_ge k j with e | e
          · exact HST.out k e
          · obtain rfl : k = j := by omega
            exact hx)
        have HNO : Hid (¬ stepP h ld ps q j → R = false) := Lib.hid (fun hx => no_ref fun e => hx (HRR2.out.1 e j hlt))
        have HSP : Hid (stepP h ld ps q j = if n ≤ j then p = q else p + 1 = q ∧ ps.getD j 0 < 52 ∧ (∀ k, k < 4 → (h k).testBit (ps.getD j 0) = false ∧ (k < j → ps.getD k 0 ≠ ps.getD j 0)) ∧ (ps.getD j 0 / 13 = ps.getD 0 0 / 13 ∨ land (h s) (suitM (ps.getD 0 0 / 13)) = 0)) := Lib.hid (by
          unfold stepP
          rw [HS.out, HP.out, HN.out])
        clear hs hp
        by_cases hnj : n ≤ j
        · have HSQ : Hid (stepP h ld ps q j ↔ p = q) := Lib.hid (by rw [HSP.out, if_pos hnj])
          have hnji : (n : Int) ≤ (j : Int) := by omega
          clear hnj
          by_cases hpq : p = q
          · have hpi : ((p : Int) != (q : Int)) = false := by rw [bne_eq_false_iff_eq]; omega
            have HX := Lib.hid (HNX.out (HSQ.out.2 hpq))
            clear hpq
            go_wp2_with (go_at_call 76; refine (HSZ2.out _).mono ?_; rintro e w' ⟨rfl, rfl⟩)
            go_round
            case rel => exact ⟨j + 1, by omega, by go_num, HX.out⟩
            case measure => simp [intOf]; omega
          · have hpi : ((p : Int) != (q : Int)) = true := by rw [bne_iff_ne]; omega
            have HF : Hid (R = false) := Lib.hid (HNO.out fun hh => hpq (HSQ.out.1 hh))
            clear hpq
            go_wp2_with (go_at_call 76; refine (HSZ2.out _).mono ?_; rintro e w' ⟨rfl, rfl⟩)
            go_ret
            exact ⟨by rw [HF.out]; rfl, HB3.out⟩
        · have hnji : ¬ (n : Int) ≤ (j : Int) := by omega
          have hz := HZ3.out
          obtain ⟨b, off, ha, hb, hcs⟩ := hz.at (show 0 < n by omega)
          have HCS := Lib.hid hcs
          obtain ⟨x, hx⟩ : ∃ x, ps.getD j 0 = x := ⟨_, rfl⟩
          obtain ⟨y, hy⟩ : ∃ y, ps.getD 0 0 = y := ⟨_, rfl⟩
          have hx256 : x < 256 := by rw [← hx]; exact hz.byte j
          have hy256 : y < 256 := by rw [← hy]; exact hz.byte 0
          have cx : _ = some (Value.int .u8 (x : Int)) := (hcs j (by omega)).trans (by rw [hx])
          have cy : w3.cell? ⟨b, off, none⟩ = some (Value.int .u8 (y : Int)) := (hcs 0 (by omega)).trans (by rw [hy])
          have HSQ : Hid (stepP h ld ps q j ↔ p + 1 = q ∧ x < 52 ∧ (∀ k, k < 4 → (h k).testBit x = false ∧ (k < j → ps.getD k 0 ≠ x)) ∧ (x / 13 = y / 13 ∨ land (h s) (suitM (y / 13)) = 0)) := Lib.hid (by rw [HSP.out, if_neg hnj, hx, hy])
          have HHX := Lib.hid (fun k W => dr_has (h k) x (HW.out k) W)
          have hjn : (j : Int) < (n : Int) := by omega
          have hn0 : (0 : Int) < (n : Int) := by omega
          clear hnj hz hcs hx hy
          subst ha
          by_cases hpq : p + 1 = q
          · have hpi : ((p : Int) != (q : Int) - 1) = false := by rw [bne_eq_false_iff_eq]; omega
            by_cases hx51 : 51 < x
            · have hxi : (51 : Int) < (x : Int) := by omega
              have HF : Hid (R = false) := Lib.hid (HNO.out fun hh => by have := (HSQ.out.1 hh).2.1; omega)
              clear hpq hx51
              go_wp2_with (go_at_call 76; refine (HSZ2.out _).mono ?_; rintro e w' ⟨rfl, rfl⟩)
              go_ret
              exact ⟨by rw [HF.out]; rfl, HB3.out⟩
            · have hxi : ¬ (51 : Int) < (x : Int) := by omega
              have HPQ := Lib.hid (And.intro hpq (show x < 52 by omega))
              clear hpq hx51
              go_wp2_with (go_at_call 76; refine (HSZ2.out _).mono ?_; rintro e w' ⟨rfl, rfl⟩)
              clear cs
              go_loopg [7] 4 (fun g i wr => ∃ k : Nat, g = 4 - k ∧ k ≤ 4 ∧ i = .int .i64 (k : Int) ∧ wr = w3 ∧ ∀ k', k' < k → (h k').testBit x = false ∧ (k' < j → ps.getD k' 0 ≠ x))
              case atStart => exact ⟨0, rfl, by omega, rfl, rfl, fun k hk => by omega⟩
              case round =>
                obtain ⟨k, rfl, hk, rfl, hwr, hkk⟩ := hrel
                rw [hwr]
                clear hwr
                have HKK := Lib.hid hkk
                clear hkk
                by_cases hk4 : k < 4
                · have ck := (HR3.out.cell k).trans (HPC.out k hk4)
                  have hki : (k : Int) < 4 := by omega
                  have HNK : Hid ((h k).testBit x = false → (k < j → ps.getD k 0 ≠ x) → ∀ k', k' < k + 1 → (h k').testBit x = false ∧ (k' < j → ps.getD k' 0 ≠ x)) := Lib.hid (fun h1 h2 k' hk' => by
                    rcases Nat.lt_or_ge k' k with e | e
                    · exact HKK.out k' e
                    · obtain rfl : k' = k := by omega
                      exact ⟨h1, h2⟩)
                  cases hbt : (h k).testBit x
                  · by_cases hkj : k < j
                    · obtain ⟨z, hzz⟩ : ∃ z, ps.getD k 0 = z := ⟨_, rfl⟩
                      have cz : _ = some (Value.int .u8 (z : Int)) := (HCS.out k (by omega)).trans (by rw [hzz])
                      have hz256 : z < 256 := by rw [← hzz]; exact HZ3.out.byte k
                      have hkji : (k : Int) < (j : Int) := by omega
                      have hkni : (k : Int) < (n : Int) := by omega
                      have HBT := Lib.hid hbt
                      clear hbt
                      by_cases hzx : z = x
                      · have hzi : ((z : Int) == (x : Int)) = true := by simp; omega
                        have HF : Hid (R = false) := Lib.hid (HNO.out fun hh => ((HSQ.out.1 hh).2.2.1 k hk4).2 hkj (by rw [hzz]; exact hzx))
                        clear hzx hkj hzz
                        go_wp2_with (go_at_call 77; refine (HHX.out k _).mono ?_; rw [HBT.out]; rintro e w' ⟨rfl, rfl⟩)
                        go_ret
                        exact ⟨by rw [HF.out]; rfl, HB3.out⟩
                      · have HX := Lib.hid (HNK.out HBT.out (fun _ => by rw [hzz]; exact hzx))
                        have hzd : decide (z = x) = false := decide_eq_false hzx
                        clear hkj hzz
                        go_wp2_with (go_at_call 77; refine (HHX.out k _).mono ?_; rw [HBT.out]; rintro e w' ⟨rfl, rfl⟩)
                        go_roundg (4 - (k + 1))
                        case measure => omega
                        case rel => exact ⟨k + 1, rfl, by omega, by simp, rfl, HX.out⟩
                    · have hkji : ¬ (k : Int) < (j : Int) := by omega
                      have HBT := Lib.hid hbt
                      have HX := Lib.hid (HNK.out HBT.out (fun hh => absurd hh hkj))
                      clear hbt hkj
                      go_wp2_with (go_at_call 77; refine (HHX.out k _).mono ?_; rw [HBT.out]; rintro e w' ⟨rfl, rfl⟩)
                      go_roundg (4 - (k + 1))
                      case measure => omega
                      case rel => exact ⟨k + 1, rfl, by omega, by simp, rfl, HX.out⟩
                  · have HBT := Lib.hid hbt
                    have HF : Hid (R = false) := Lib.hid (HNO.out fun hh => by have := ((HSQ.out.1 hh).2.2.1 k hk4).1; rw [hbt] at this; cases this)
                    clear hbt
                    go_wp2_with (go_at_call 77; refine (HHX.out k _).mono ?_; rw [HBT.out]; rintro e w' ⟨rfl, rfl⟩)
                    go_ret
                    exact ⟨by rw [HF.out]; rfl, HB3.out⟩
                · obtain rfl : k = 4 := by omega
                  simp only [show ((4 : Nat) : Int) = 4 from rfl]
                  obtain ⟨X, hX⟩ : ∃ X, x / 13 = X := ⟨_, rfl⟩
                  obtain ⟨Y, hY⟩ : ∃ Y, y / 13 = Y := ⟨_, rfl⟩
                  have hXi : (x : Int) / 13 = (X : Int) := by omega
                  have hYi : (y : Int) / 13 = (Y : Int) := by omega
                  have HHY := Lib.hid (fun W => HHS.out Y (by omega) W)
                  have HEX := Lib.hid (And.intro hX hY)
                  clear hX hY
                  by_cases hXY : X = Y
                  · have hne : ((X : Int) != (Y : Int)) = false := by rw [bne_eq_false_iff_eq]; omega
                    have HX := Lib.hid (HNX.out (HSQ.out.2 ⟨HPQ.out.1, HPQ.out.2, HKK.out, .inl (by rw [HEX.out.1, HEX.out.2]; exact hXY)⟩))
                    clear hXY
                    go_wp2_with fail
                    go_round
                    case rel => exact ⟨j + 1, by omega, by go_num, HX.out⟩
                    case measure => simp [intOf]; omega
                  · have hne : ((X : Int) != (Y : Int)) = true := by rw [bne_iff_ne]; omega
                    by_cases hl0 : land (h s) (suitM Y) = 0
                    · have HX := Lib.hid (HNX.out (HSQ.out.2 ⟨HPQ.out.1, HPQ.out.2, HKK.out, .inr (by rw [HEX.out.2]; exact hl0)⟩))
                      have HL0 : Hid ((land (h s) (suitM Y) != 0) = false) := Lib.hid (by rw [bne_eq_false_iff_eq]; exact hl0)
                      clear hXY hl0
                      go_wp2_with (go_at_call 78; refine (HHY.out _).mono ?_; rw [HL0.out]; rintro e w' ⟨rfl, rfl⟩)
                      go_round
                      case rel => exact ⟨j + 1, by omega, by go_num, HX.out⟩
                      case measure => simp [intOf]; omega
                    · have HF : Hid (R = false) := Lib.hid (HNO.out fun hh => by
                        rcases (HSQ.out.1 hh).2.2.2 with e | e
                        · rw [HEX.out.1, HEX.out.2] at e; exact hXY e
                        · rw [HEX.out.2] at e; exact hl0 e)
                      have HL0 : Hid ((land (h s) (suitM Y) != 0) = true) := Lib.hid (by rw [bne_iff_ne]; exact hl0)
                      clear hXY hl0
                      go_wp2_with (go_at_call 78; refine (HHY.out _).mono ?_; rw [HL0.out]; rintro e w' ⟨rfl, rfl⟩)
                      go_ret
                      exact ⟨by rw [HF.out]; rfl, HB3.out⟩
          · have hpi : ((p : Int) != (q : Int) - 1) = true := by rw [bne_iff_ne]; omega
            have HF : Hid (R = false) := Lib.hid (HNO.out fun hh => hpq (HSQ.out.1 hh).1)
            clear hpq
            go_wp2_with (go_at_call 76; refine (HSZ2.out _).mono ?_; rintro e w' ⟨rfl, rfl⟩)
            go_ret
            exact ⟨by rw [HF.out]; rfl, HB3.out⟩
      · obtain rfl : j = 4 := by omega
        simp only [show ((4 : Nat) : Int) = 4 from rfl]
        have HF : Hid (R = true) := Lib.hid (HRR2.out.2 HST.out)
        go_wp2_with fail
        go_ret
        exact ⟨by rw [HF.out]; rfl, HB3.out⟩
end Go.Proofs.YtnbillhodbcfbaaDoor

/- The reference of chapter 15 over this seat's program: Legal, winner. -/
namespace Go.Proofs.YtnbillhodbcfbaaDoor
open Go.RowKit Go.Shelf Go.Sort

theorem sub_shl1 {m c : Nat} (hc : c < 64) (hb : m.testBit c = true) : landn m (shl1 c) + shl1 c = m := by
  have hs : shl1 c = 2 ^ c := by unfold shl1; rw [if_pos hc]
  have hp := Nat.two_pow_pos c
  have h1 : m = 2 ^ c * (m / 2 ^ c) + m % 2 ^ c := (Nat.div_add_mod m (2 ^ c)).symm
  have h2 : m / 2 ^ c % 2 = 1 := by
    rw [Nat.testBit_eq_decide_div_mod_eq, decide_eq_true_eq] at hb; exact hb
  have e : landn m (shl1 c) = 2 ^ c * (m / 2 ^ c - 1) + m % 2 ^ c := by
    apply Nat.eq_of_testBit_eq
    intro i
    rw [testBit_landn, testBit_shl1, Nat.testBit_two_pow_mul_add _ (Nat.mod_lt _ hp)]
    have hm := Nat.testBit_two_pow_mul_add (m / 2 ^ c) (Nat.mod_lt m hp) i
    rw [Nat.div_add_mod] at hm
    rw [hm]
    by_cases hi : i < c
    · rw [if_pos hi, if_pos hi]
      simp [show ¬ c = i by omega]
    · rw [if_neg hi, if_neg hi]
      obtain ⟨k, hk⟩ : ∃ k, m / 2 ^ c = 2 * k + 1 := by
        generalize m / 2 ^ c = d at *
        exact ⟨d / 2, by omega⟩
      rw [hk, show 2 * k + 1 - 1 = 2 * k by omega]
      by_cases hic : c = i
      · subst hic; simp [hc]
      · obtain ⟨d, hd⟩ : ∃ d, i - c = d + 1 := ⟨i - c - 1, by omega⟩
        rw [hd, Nat.testBit_succ, Nat.testBit_succ]
        simp [hic, show (2 * k + 1) / 2 = k by omega]
  rw [e, hs]
  have h3 : 2 ^ c * (m / 2 ^ c - 1) + 2 ^ c = 2 ^ c * (m / 2 ^ c) := by
    rw [← Nat.mul_succ]; congr 1
    generalize m / 2 ^ c = d at *
    omega
  omega
/-- the suit that wins among the first k cards -/
def wsuit (tr : Nat) (l : Nat → Nat) : Nat → Nat
  | 0 => l 0 / 13
  | k + 1 => if l k / 13 = tr then tr else wsuit tr l k
theorem wsuit_cases (tr : Nat) (l : Nat → Nat) : ∀ k, (wsuit tr l k = tr ∧ ∃ i, i < k ∧ l i / 13 = tr) ∨ (wsuit tr l k = l 0 / 13 ∧ ∀ i, i < k → l i / 13 ≠ tr)
  | 0 => .inr ⟨rfl, fun i h => by omega⟩
  | k + 1 => by
    unfold wsuit
    by_cases e : l k / 13 = tr
    · rw [if_pos e]; exact .inl ⟨rfl, k, by omega, e⟩
    · rw [if_neg e]
      rcases wsuit_cases tr l k with ⟨h1, i, hi, h2⟩ | ⟨h1, h2⟩
      · exact .inl ⟨h1, i, by omega, h2⟩
      · refine .inr ⟨h1, fun i hi => ?_⟩
        by_cases ek : i = k
        · subst ek; exact e
        · exact h2 i (by omega)
theorem bestTo_suit (tr : Nat) (l : Nat → Nat) : ∀ k, l (bestTo tr l k) / 13 = wsuit tr l (k + 1) ∧ ∀ j, j ≤ k → l j / 13 = wsuit tr l (k + 1) → l j ≤ l (bestTo tr l k)
  | 0 => by
    have e : wsuit tr l 1 = l 0 / 13 := by
      show (if l 0 / 13 = tr then tr else l 0 / 13) = _
      split
      · rename_i h; exact h.symm
      · rfl
    rw [e]
    refine ⟨rfl, fun j hj _ => ?_⟩
    obtain rfl : j = 0 := by omega
    exact Nat.le_refl _
  | k + 1 => by
    obtain ⟨h1, h2⟩ := bestTo_suit tr l k
    have hw := wsuit_cases tr l (k + 1)
    have e : wsuit tr l (k + 1 + 1) = if l (k + 1) / 13 = tr then tr else wsuit tr l (k + 1) := rfl
    rw [e]
    unfold bestTo
    generalize bestTo tr l k = b at *
    unfold beatsB
    by_cases hs : l (k + 1) / 13 = l b / 13
    · rw [if_pos hs]
      have e2 : (if l (k + 1) / 13 = tr then tr else wsuit tr l (k + 1)) = wsuit tr l (k + 1) := by
        split
        · rename_i h; rw [← h1, ← hs, h]
        · rfl
      rw [e2]
      by_cases hlt : l b < l (k + 1)
      · rw [if_pos (decide_eq_true hlt)]
        refine ⟨by rw [hs, h1], fun j hj hjs => ?_⟩
        by_cases ej : j = k + 1
        · subst ej; exact Nat.le_refl _
        · have := h2 j (by omega) hjs; omega
      · rw [if_neg (by rw [decide_eq_true_eq]; exact hlt)]
        refine ⟨h1, fun j hj hjs => ?_⟩
        by_cases ej : j = k + 1
        · subst ej; omega
        · exact h2 j (by omega) hjs
    · rw [if_neg hs]
      by_cases ht : l (k + 1) / 13 = tr
      · rw [if_pos (decide_eq_true ht), if_pos ht]
        refine ⟨ht, fun j hj hjs => ?_⟩
        by_cases ej : j = k + 1
        · subst ej; exact Nat.le_refl _
        · exfalso
          rcases hw with ⟨a, -⟩ | ⟨-, a⟩
          · exact hs (by rw [h1, a, ht])
          · exact a j (by omega) hjs
      · rw [if_neg (by rw [decide_eq_true_eq]; exact ht), if_neg ht]
        refine ⟨h1, fun j hj hjs => ?_⟩
        by_cases ej : j = k + 1
        · subst ej; exact (hs (by rw [h1, hjs])).elim
        · exact h2 j (by omega) hjs
theorem bestTo_uniq {tr : Nat} {l : Nat → Nat} {b : Nat} (hb : b < 4) (h1 : l b / 13 = wsuit tr l 4) (h2 : ∀ j, j < 4 → l j / 13 = wsuit tr l 4 → l j ≤ l b) (hne : ∀ i j, i < 4 → j < 4 → l i = l j → i = j) : bestTo tr l 3 = b := by
  obtain ⟨a1, a2⟩ := bestTo_suit tr l 3
  have hle := bestTo_le tr l 3
  have x := h2 _ (by omega) a1
  have y := a2 b (by omega) h1
  exact hne _ _ (by omega) hb (by omega)
theorem wsuit_some (tr : Nat) (l : Nat → Nat) : ∃ i, i < 4 ∧ l i / 13 = wsuit tr l 4 := by
  rcases wsuit_cases tr l 4 with ⟨h, i, hi, e⟩ | ⟨h, -⟩
  · exact ⟨i, hi, by rw [h, e]⟩
  · exact ⟨0, by decide, h.symm⟩
set_option maxHeartbeats 2000000 in
theorem dr_winner (tr : Nat) (zs : List Nat) (a : Option Addr) (cap : Nat) (htr : tr < 256) (hne : ∀ i j, i < 4 → j < 4 → zs.getD i 0 = zs.getD j 0 → i = j) (w : World) (hz : Byt w a 4 zs) :
    Calls Tryd.prog 84 #[.slice a 4 cap, .int .u8 (tr : Int)] w fun e w' => e = .returned (.int .i64 (bestTo tr (fun i => zs.getD i 0) 3 : Int)) ∧ Below w.heap.size w w' := by
  obtain ⟨l, hL⟩ : ∃ l : Nat → Nat, (fun i => zs.getD i 0) = l := ⟨_, rfl⟩
  have HU := Lib.hid (fun b hb h1 h2 => @bestTo_uniq tr l b hb h1 h2 (by rw [← hL]; exact hne))
  have HSO := Lib.hid (wsuit_some tr l)
  have HB := Lib.hid (fun i => show l i < 256 from by rw [← hL]; exact hz.byte i)
  obtain ⟨b, off, rfl, hb, hcs⟩ := hz.at (by omega)
  have HC := Lib.hid (fun i (hi : i < 4) => show w.cell? ⟨b, off + i, none⟩ = some (.int .u8 ((l i : Nat) : Int)) from by rw [← hL]; exact hcs i hi)
  rw [hL]
  obtain ⟨R, hR⟩ : ∃ R, bestTo tr l 3 = R := ⟨_, rfl⟩
  rw [hR] at HU ⊢
  have hR3 : R ≤ 3 := by rw [← hR]; exact bestTo_le _ _ _
  have HBL := Lib.hid hb
  clear hR hL hz hcs hne hb
  have c0 : w.cell? ⟨b, off, none⟩ = some (.int .u8 ((l 0 : Nat) : Int)) := HC.out 0 (by decide)
  have b0 := HB.out 0
  go_enter Tryd.func84, Tryd.ntmps84
  go_wp2
  go_loop [5, 6] (fun s i => ∃ k : Nat, k ≤ 4 ∧ i = .int .i64 (k : Int) ∧ s = .int .u8 (wsuit tr l k : Int)) (fun _ i => 4 - (intOf i).toNat)
  case atStart => exact ⟨0, by omega, rfl, by simp [wsuit]⟩
  case round =>
    obtain ⟨k, hk, rfl, rfl⟩ := hrel
    have HWS := Lib.hid (show wsuit tr l (k + 1) = if l k / 13 = tr then tr else wsuit tr l k from rfl)
    by_cases hlt : k < 4
    · generalize wsuit tr l k = s at *
      have ck := HC.out k hlt
      have bk := HB.out k
      have hki : (k : Int) < 4 := by omega
      obtain ⟨x, hx⟩ : ∃ x, l k / 13 = x := ⟨_, rfl⟩
      have hxi : ((l k : Nat) : Int) / 13 = (x : Int) := by omega
      rw [hx] at HWS
      clear hx
      by_cases hxt : x = tr
      · have HX : Hid (wsuit tr l (k + 1) = tr) := Lib.hid (by rw [HWS.out, if_pos hxt])
        subst hxt
        go_wp2
        go_round
        case rel => exact ⟨k + 1, by omega, by go_num, by rw [HX.out]⟩
        case measure => simp [intOf]; omega
      · have HX : Hid (wsuit tr l (k + 1) = s) := Lib.hid (by rw [HWS.out, if_neg hxt])
        go_wp2
        go_round
        case rel => exact ⟨k + 1, by omega, by go_num, by rw [HX.out]⟩
        case measure => simp [intOf]; omega
    · obtain rfl : k = 4 := by omega
      simp only [show ((4 : Nat) : Int) = 4 from rfl]
      generalize wsuit tr l 4 = s at *
      clear HWS
      go_wp2
      go_loopg [7, 8] 4 (fun g bv i wr => ∃ (k : Nat) (bi : Int), g = 4 - k ∧ k ≤ 4 ∧ i = .int .i64 (k : Int) ∧ bv = .int .i64 bi ∧ Below w.heap.size w wr ∧ ((bi = -1 ∧ ∀ j, j < k → l j / 13 ≠ s) ∨ ∃ b : Nat, bi = (b : Int) ∧ b < k ∧ l b / 13 = s ∧ ∀ j, j < k → l j / 13 = s → l j ≤ l b))
      case atStart => exact ⟨0, -1, rfl, by omega, rfl, rfl, Below.refl _ _, .inl ⟨rfl, fun j hj => by omega⟩⟩
      case round =>
        obtain ⟨k, bi, rfl, hk, rfl, rfl, hB, hbest⟩ := hrel
        have HBW := Lib.hid hB
        by_cases hlt : k < 4
        · have ck : wr.cell? ⟨b, off + k, none⟩ = _ := (hB.cell (p := ⟨b, off + k, none⟩) HBL.out).trans (HC.out k hlt)
          have fk := fun dd os => cell_regrown ck dd os
          have bk := HB.out k
          have hki : (k : Int) < 4 := by omega
          obtain ⟨x, hx⟩ : ∃ x, l k / 13 = x := ⟨_, rfl⟩
          have hxi : ((l k : Nat) : Int) / 13 = (x : Int) := by omega
          clear hB ck
          by_cases hxs : x = s
          · have hxd : ((x : Int) == (s : Int)) = true := by simp; omega
            rcases hbest with ⟨rfl, hno⟩ | ⟨m, rfl, hmk, hms, hmx⟩
            · have HNX : Hid (∃ b : Nat, (k : Int) = (b : Int) ∧ b < k + 1 ∧ l b / 13 = s ∧ ∀ j, j < k + 1 → l j / 13 = s → l j ≤ l b) := Lib.hid ⟨k, rfl, by omega, by rw [hx, hxs], fun j hj hjs => by
                rcases Nat.lt_or_ge j k with e | e
                · exact absurd hjs (hno j e)
                · obtain rfl : j = k := by omega
                  exact Nat.le_refl _⟩
              clear hxs hx hno
              go_wp2_with fail
              refine wp_region_quiet_below (by kernel_rfl) (by kernel_rfl) ?_
              repeat (first | go_big_quiet_step (fail) | quiet_step (fail))
              refine wpQuiet_nil ?_
              rintro _ ⟨p, rfl⟩
              have HB2 := Lib.hid (HBW.out.trans ((below_regrown wr p.d p.os).mono HBW.out.size))
              generalize grow (redrawn wr p.d) p.os = wa at *
              clear fk
              go_wp2_with fail
              go_roundg (4 - (k + 1))
              case measure => omega
              case rel => exact ⟨k + 1, _, rfl, by omega, by simp, rfl, HB2.out, .inr HNX.out⟩
            · have cm : wr.cell? ⟨b, off + m, none⟩ = _ := (HBW.out.cell (p := ⟨b, off + m, none⟩) HBL.out).trans (HC.out m (by omega))
              have fm := fun dd os => cell_regrown cm dd os
              have bm := HB.out m
              have hmi : (m : Int) < 4 := by omega
              have hm0 : ¬ (m : Int) < 0 := by omega
              clear cm
              by_cases hlt2 : l m < l k
              · have hli : ((l m : Nat) : Int) < ((l k : Nat) : Int) := by omega
                have HNX : Hid (∃ b : Nat, (k : Int) = (b : Int) ∧ b < k + 1 ∧ l b / 13 = s ∧ ∀ j, j < k + 1 → l j / 13 = s → l j ≤ l b) := Lib.hid ⟨k, rfl, by omega, by rw [hx, hxs], fun j hj hjs => by
                  rcases Nat.lt_or_ge j k with e | e
                  · have := hmx j e hjs; omega
                  · obtain rfl : j = k := by omega
                    exact Nat.le_refl _⟩
                clear hxs hx hmx hms hlt2
                go_wp2_with fail
                refine wp_region_quiet_below (by kernel_rfl) (by kernel_rfl) ?_
                repeat (first | go_big_quiet_step (fail) | quiet_step (fail))
                refine wpQuiet_nil ?_
                rintro _ ⟨p, rfl⟩
                have HB2 := Lib.hid (HBW.out.trans ((below_regrown wr p.d p.os).mono HBW.out.size))
                generalize grow (redrawn wr p.d) p.os = wa at *
                clear fk fm
                go_wp2_with fail
                go_roundg (4 - (k + 1))
                case measure => omega
                case rel => exact ⟨k + 1, _, rfl, by omega, by simp, rfl, HB2.out, .inr HNX.out⟩
              · have hli : ¬ ((l m : Nat) : Int) < ((l k : Nat) : Int) := by omega
                have HNX : Hid (∃ b : Nat, (m : Int) = (b : Int) ∧ b < k + 1 ∧ l b / 13 = s ∧ ∀ j, j < k + 1 → l j / 13 = s → l j ≤ l b) := Lib.hid ⟨m, rfl, by omega, hms, fun j hj hjs => by
                  rcases Nat.lt_or_ge j k with e | e
                  · exact hmx j e hjs
                  · obtain rfl : j = k := by omega
                    omega⟩
                clear hxs hx hmx hms hlt2
                go_wp2_with fail
                refine wp_region_quiet_below (by kernel_rfl) (by kernel_rfl) ?_
                repeat (first | go_big_quiet_step (fail) | quiet_step (fail))
                refine wpQuiet_nil ?_
                rintro _ ⟨p, rfl⟩
                have HB2 := Lib.hid (HBW.out.trans ((below_regrown wr p.d p.os).mono HBW.out.size))
                generalize grow (redrawn wr p.d) p.os = wa at *
                clear fk fm
                go_wp2_with fail
                go_roundg (4 - (k + 1))
                case measure => omega
                case rel => exact ⟨k + 1, _, rfl, by omega, by simp, rfl, HB2.out, .inr HNX.out⟩
          · have hxd : ((x : Int) == (s : Int)) = false := by rw [beq_eq_false_iff_ne]; omega
            have HNX : Hid ((bi = -1 ∧ ∀ j, j < k + 1 → l j / 13 ≠ s) ∨ ∃ b : Nat, bi = (b : Int) ∧ b < k + 1 ∧ l b / 13 = s ∧ ∀ j, j < k + 1 → l j / 13 = s → l j ≤ l b) := Lib.hid (by
              rcases hbest with ⟨h1, h2⟩ | ⟨m, h1, h2, h3, h4⟩
              · refine .inl ⟨h1, fun j hj => ?_⟩
                rcases Nat.lt_or_ge j k with e | e
                · exact h2 j e
                · obtain rfl : j = k := by omega
                  rw [hx]; exact hxs
              · refine .inr ⟨m, h1, by omega, h3, fun j hj hjs => ?_⟩
                rcases Nat.lt_or_ge j k with e | e
                · exact h4 j e hjs
                · obtain rfl : j = k := by omega
                  exact absurd (by rw [← hx]; exact hjs) hxs)
            clear hxs hx hbest
            go_wp2_with fail
            refine wp_region_quiet_below (by kernel_rfl) (by kernel_rfl) ?_
            repeat (first | go_big_quiet_step (fail) | quiet_step (fail))
            refine wpQuiet_nil ?_
            rintro _ ⟨p, rfl⟩
            have HB2 := Lib.hid (HBW.out.trans ((below_regrown wr p.d p.os).mono HBW.out.size))
            generalize grow (redrawn wr p.d) p.os = wa at *
            clear fk
            go_wp2_with fail
            go_roundg (4 - (k + 1))
            case measure => omega
            case rel => exact ⟨k + 1, _, rfl, by omega, by simp, rfl, HB2.out, HNX.out⟩
        · obtain rfl : k = 4 := by omega
          simp only [show ((4 : Nat) : Int) = 4 from rfl]
          have HR : Hid (bi = (R : Int)) := Lib.hid (by
            rcases hbest with ⟨rfl, h2⟩ | ⟨m, rfl, h2, h3, h4⟩
            · obtain ⟨i, hi, e⟩ := HSO.out
              exact absurd e (h2 i hi)
            · rw [HU.out m h2 h3 h4])
          clear hbest
          go_wp2_with fail
          go_ret
          exact ⟨by rw [← HR.out]; rfl, HBW.out⟩
set_option maxHeartbeats 2000000 in
theorem dr_Legal (h : Nat → Nat) (tr ld : Nat) (ps : List Nat) (a : Option Addr) (cap c : Nat) (hw : ∀ s, W64 (h s)) (hld : ld < 256) (hc : c < 256) (w : World) (hz : Byt w a ps.length ps) :
    Calls Tryd.prog 79 #[.agg (posA h tr ld (.slice a ps.length cap)), .int .i64 (c : Int)] w fun e w' => e = .returned (.bool (Tb.legal ⟨h, ld, ps⟩ c)) ∧ Below w.heap.size w w' := by
  have HTU := Lib.hid (fun W => dr_Turn h tr ld ps.length a cap hld (by have := hz.small; omega) W)
  have HR0 := Lib.hid (Row.new w 62 (posA h tr ld (.slice a ps.length cap)))
  have hb1 := (Below.refl w.heap.size w).alloc (Nat.le_refl _) (.cells (posA h tr ld (.slice a ps.length cap)) 62)
  have HB1 := Lib.hid hb1
  have HZ1 := Lib.hid (hz.below (Nat.le_refl _) hb1)
  obtain ⟨PA, hPA⟩ : ∃ A, posA h tr ld (.slice a ps.length cap) = A := ⟨_, rfl⟩
  have HPC : Hid (∀ s, s < 4 → PA[s]? = some (.int .u64 (h s : Int))) := Lib.hid (by rw [← hPA]; exact fun s hs => posA_h _ _ _ _ hs)
  have HP6 : Hid (PA[6]? = some (.slice a ps.length cap)) := Lib.hid (by rw [← hPA]; rfl)
  have HPZ : Hid (PA.size = 7) := Lib.hid (by rw [← hPA]; rfl)
  have HSM := Lib.hid hz.small
  obtain ⟨s, hs⟩ : ∃ s, (ld + ps.length) % 4 = s := ⟨_, rfl⟩
  have hs4 : s < 4 := by omega
  have HH := Lib.hid (fun W => dr_has (h s) c (hw s) W)
  have HHS := Lib.hid (fun x (hx : x < 256) W => dr_hasSuit (h s) x (hw s) hx W)
  have HLG : Hid (Tb.legal ⟨h, ld, ps⟩ c = ((h s).testBit c && (decide (ps.length = 0) || decide (c / 13 = ps.getD 0 0 / 13) || !(land (h s) (suitM (ps.getD 0 0 / 13)) != 0)))) := Lib.hid (by
    have ht : (Tb.mk h ld ps).turn = s := hs
    rw [Bool.eq_iff_iff, legal_iff, ht, Bool.and_eq_true, Bool.or_eq_true, Bool.or_eq_true, decide_eq_true_eq, decide_eq_true_eq, Bool.not_eq_true', bne_eq_false_iff_eq]
    refine and_congr_right fun _ => ?_
    rcases ps with _ | ⟨d, l⟩
    · simp
    · simp only [List.getElem?_cons_zero, Option.some.injEq, forall_eq', List.length_cons, List.getD_cons_zero]
      constructor
      · rintro (e | e)
        · exact .inl (.inr e)
        · refine .inr (Nat.eq_of_testBit_eq fun x => ?_)
          rw [testBit_land, suitM_bit, Nat.zero_testBit]
          cases hb : (h s).testBit x
          · rfl
          · rw [decide_eq_false (e x hb)]; rfl
      · rintro ((e | e) | e)
        · omega
        · exact .inl e
        · refine .inr fun x hx e2 => ?_
          have : (land (h s) (suitM (d / 13))).testBit x = true := by rw [testBit_land, hx, suitM_bit, decide_eq_true e2]; rfl
          rw [e, Nat.zero_testBit] at this; cases this)
  rw [hPA] at HTU HR0 HB1 HZ1 ⊢
  rw [hs] at HTU
  generalize Tb.legal ⟨h, ld, ps⟩ c = R at *
  clear hPA hw hz hb1 hs
  go_enter Tryd.func79, Tryd.ntmps79
  go_upto_region 1 with fail
  generalize w.alloc (.cells PA 62) = w1 at *
  obtain ⟨b0, hb0⟩ : ∃ b, w.heap.size = b := ⟨_, rfl⟩
  have HB0 := Lib.hid hb0
  rw [hb0] at HR0 ⊢
  clear hb0
  go_wp2_with (refine wpList_load_row rfl 62 (.tmp 2) rfl b0 rfl 62 PA (0, 0) _ HR0.out Tryd.underlying62 rfl (by rw [HPZ.out]; exact size_rpos) ?_)
  refine (HTU.out _).mono ?_
  rintro e w3 ⟨rfl, hb3⟩
  have HR3 := Lib.hid (HR0.out.later hb3)
  have HB3 := Lib.hid (HB1.out.trans (hb3.mono HB1.out.size))
  have HZ3 := Lib.hid (HZ1.out.below (Nat.le_refl _) hb3)
  clear hb3
  have cs := (HR3.out.cell s).trans (HPC.out s hs4)
  have hs4i : (s : Int) < 4 := by omega
  cases hbt : (h s).testBit c
  · have HF : Hid (R = false) := Lib.hid (by rw [HLG.out, hbt]; rfl)
    have HBT := Lib.hid hbt
    clear hbt
    go_wp2_with (go_at_call 77; refine (HH.out _).mono ?_; rw [HBT.out]; rintro e w' ⟨rfl, rfl⟩)
    go_ret
    exact ⟨by rw [HF.out]; rfl, HB3.out⟩
  · have HL2 : Hid (R = (decide (ps.length = 0) || decide (c / 13 = ps.getD 0 0 / 13) || !(land (h s) (suitM (ps.getD 0 0 / 13)) != 0))) := Lib.hid (by rw [HLG.out, hbt]; rfl)
    have HBT := Lib.hid hbt
    clear hbt
    have c6 := (HR3.out.cell 6).trans HP6.out
    obtain ⟨n, hn⟩ : ∃ n, ps.length = n := ⟨_, rfl⟩
    rw [hn] at HZ3 c6 HL2 HSM
    clear hn
    by_cases hn0 : n = 0
    · have HF : Hid (R = true) := Lib.hid (by rw [HL2.out, decide_eq_true hn0]; rfl)
      subst hn0
      go_wp2_with (go_at_call 77; refine (HH.out _).mono ?_; rw [HBT.out]; rintro e w' ⟨rfl, rfl⟩)
      go_ret
      exact ⟨by rw [HF.out]; rfl, HB3.out⟩
    · obtain ⟨b, off, ha, hb, hcs⟩ := HZ3.out.at (by omega)
      obtain ⟨y, hy⟩ : ∃ y, ps.getD 0 0 = y := ⟨_, rfl⟩
      have hy256 : y < 256 := by rw [← hy]; exact HZ3.out.byte 0
      have cy : w3.cell? ⟨b, off, none⟩ = some (Value.int .u8 (y : Int)) := (hcs 0 (by omega)).trans (by rw [hy])
      rw [hy] at HL2
      have hni : ((n : Int) == 0) = false := by simp; omega
      have hn1 : (0 : Int) < (n : Int) := by omega
      subst ha
      obtain ⟨X, hX⟩ : ∃ X, c / 13 = X := ⟨_, rfl⟩
      obtain ⟨Y, hY⟩ : ∃ Y, y / 13 = Y := ⟨_, rfl⟩
      have hXi : (c : Int) / 13 = (X : Int) := by omega
      have hYi : (y : Int) / 13 = (Y : Int) := by omega
      have HHY := Lib.hid (fun W => HHS.out Y (by omega) W)
      rw [hX, hY, decide_eq_false hn0, Bool.false_or] at HL2
      clear hX hY hy hcs
      by_cases hXY : X = Y
      · have HF : Hid (R = true) := Lib.hid (by rw [HL2.out, decide_eq_true hXY]; rfl)
        have hxd : ((X : Int) == (Y : Int)) = true := by simp; omega
        clear hXY
        go_wp2_with (go_at_call 77; refine (HH.out _).mono ?_; rw [HBT.out]; rintro e w' ⟨rfl, rfl⟩)
        go_ret
        exact ⟨by rw [HF.out]; rfl, HB3.out⟩
      · have HF : Hid (R = !(land (h s) (suitM Y) != 0)) := Lib.hid (by rw [HL2.out, decide_eq_false hXY]; rfl)
        have hxd : ((X : Int) == (Y : Int)) = false := by rw [beq_eq_false_iff_ne]; omega
        generalize (land (h s) (suitM Y) != 0) = B at *
        clear hXY
        cases B
        all_goals (
          go_wp2_with (first | (go_at_call 77; refine (HH.out _).mono ?_; rw [HBT.out]; rintro e w' ⟨rfl, rfl⟩) | (go_at_call 78; refine (HHY.out _).mono ?_; rintro e w' ⟨rfl, rfl⟩))
          go_ret
          exact ⟨by rw [HF.out]; rfl, HB3.out⟩)
end Go.Proofs.YtnbillhodbcfbaaDoor
