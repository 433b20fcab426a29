/- RfA, RfB, RfC in one text. -/
import Derived.Test.YtdlnilebnobllaaRvTuP
import Derived.Deep.LoopGhost
import Derived.Outline

/- The reference of chapter 13 over this seat's program: has, size, better. -/
namespace Go.Proofs.Ytdlnilebnobllaa
open Go.RowKit Go.Shelf Go.Sort

theorem has_bit (h c : Nat) (hw : W64 h) (hc : c < 64) : ((IntKind.u64.wrap ((h : Int) / ((shl1 c : Nat) : Int))).tmod 2 == 1) = h.testBit c := by
  have hs : shl1 c = 2 ^ c := by unfold shl1; rw [if_pos hc]
  have hle : h / 2 ^ c ≤ h := Nat.div_le_self _ _
  have hq : (h : Int) / ((shl1 c : Nat) : Int) = ((h / 2 ^ c : Nat) : Int) := by rw [hs]; exact (Int.natCast_ediv _ _).symm
  unfold W64 at hw
  rw [hq, wrap_u64 _ (by unfold W64; omega), Nat.testBit_eq_decide_div_mod_eq, Bool.eq_iff_iff, beq_iff_eq, decide_eq_true_eq, Int.tmod_eq_emod_of_nonneg (Int.natCast_nonneg _)]
  generalize h / 2 ^ c = q
  omega
theorem rf_has (h c : Nat) (hw : W64 h) (hc : c < 64) (w : World) :
    Calls Try.prog 43 #[.int .u64 (h : Int), .int .i64 (c : Int)] w fun e w' => e = .returned (.bool (h.testBit c)) ∧ w = w' := by
  have hp : (0 : Int) < ((shl1 c : Nat) : Int) := by unfold shl1; rw [if_pos hc]; have := Nat.two_pow_pos c; omega
  have HB := Lib.hid (has_bit h c hw hc)
  go_enter Try.func43, Try.ntmps43
  go_wp2
  go_ret
  exact ⟨by rw [HB.out]; rfl, rfl⟩
theorem rf_size (h : Nat) (hw : W64 h) (w : World) :
    Calls Try.prog 44 #[.int .u64 (h : Int)] w fun e w' => e = .returned (.int .i64 (cnt h 52 : Int)) ∧ w = w' := by
  have HW := Lib.hid hw
  clear hw
  go_enter Try.func44, Try.ntmps44
  go_wp2
  go_loop [3, 4] (fun n c => ∃ k : Nat, k ≤ 52 ∧ c = .int .i64 (k : Int) ∧ n = .int .i64 (cnt h k : Int)) (fun _ c => 52 - (intOf c).toNat)
  case atStart => exact ⟨0, by omega, rfl, rfl⟩
  case round =>
    obtain ⟨k, hk, rfl, rfl⟩ := hrel
    by_cases hlt : k < 52
    · have hle := cnt_le h k
      have HS := Lib.hid (show cnt h (k + 1) = (if h.testBit k then 1 else 0) + cnt h k from by rw [cnt]; cases h.testBit k <;> simp <;> omega)
      generalize cnt h k = m at *
      cases hb : h.testBit k
      · have HB := Lib.hid hb
        clear hb
        go_wp2_with (go_at_call 43; refine (rf_has h k HW.out (by omega) w).mono ?_; rw [HB.out]; rintro e w' ⟨rfl, rfl⟩)
        go_round
        case rel => exact ⟨k + 1, by omega, by go_num, by rw [HS.out, HB.out]; simp⟩
        case measure => simp [intOf]; omega
      · have HB := Lib.hid hb
        clear hb
        go_wp2_with (go_at_call 43; refine (rf_has h k HW.out (by omega) w).mono ?_; rw [HB.out]; rintro e w' ⟨rfl, rfl⟩)
        go_round
        case rel => exact ⟨k + 1, by omega, by go_num, by rw [HS.out, HB.out]; simp; omega⟩
        case measure => simp [intOf]; omega
    · have : k = 52 := by omega
      subst this
      go_wp2
      go_ret
      exact ⟨rfl, rfl⟩
/-- how strong a card is, for the reference -/
def strR (t led c : Nat) : Nat := if c / 13 = t then 14 + c % 13 else if c / 13 = led then 1 + c % 13 else 0
def betR (a b led t : Nat) : Bool := decide (strR t led b < strR t led a)
theorem bool_ret {x y : Bool} (h : x = y) : Ending.returned (.bool x) = .returned (.bool y) := by rw [h]
theorem rf_better (a b led t : Nat) (w : World) (ha : a < 256) (hb : b < 256) :
    Calls Try.prog 42 #[.int .u8 (a : Int), .int .u8 (b : Int), .int .u8 (led : Int), .int .u8 (t : Int)] w fun e w' => e = .returned (.bool (betR a b led t)) ∧ w = w' := by
  have HE := Lib.hid (show betR a b led t = decide ((if b / 13 = t then 14 + b % 13 else if b / 13 = led then 1 + b % 13 else 0) < (if a / 13 = t then 14 + a % 13 else if a / 13 = led then 1 + a % 13 else 0)) from rfl)
  generalize betR a b led t = R at *
  by_cases a1 : a / 13 = led <;> by_cases a2 : a / 13 = t <;> by_cases b1 : b / 13 = led <;> by_cases b2 : b / 13 = t
  all_goals
    have A1 : ((a : Int) / 13 == (led : Int)) = decide (a / 13 = led) := by rw [Bool.eq_iff_iff, beq_iff_eq, decide_eq_true_eq]; omega
    have A2 : ((a : Int) / 13 == (t : Int)) = decide (a / 13 = t) := by rw [Bool.eq_iff_iff, beq_iff_eq, decide_eq_true_eq]; omega
    have B1 : ((b : Int) / 13 == (led : Int)) = decide (b / 13 = led) := by rw [Bool.eq_iff_iff, beq_iff_eq, decide_eq_true_eq]; omega
    have B2 : ((b : Int) / 13 == (t : Int)) = decide (b / 13 = t) := by rw [Bool.eq_iff_iff, beq_iff_eq, decide_eq_true_eq]; omega
    first | rw [decide_eq_true a1] at A1 | rw [decide_eq_false a1] at A1
    first | rw [decide_eq_true a2] at A2 | rw [decide_eq_false a2] at A2
    first | rw [decide_eq_true b1] at B1 | rw [decide_eq_false b1] at B1
    first | rw [decide_eq_true b2] at B2 | rw [decide_eq_false b2] at B2
    by_cases hbad : (a / 13 = led ∧ a / 13 = t ∧ ¬ (b / 13 = led ↔ b / 13 = t)) ∨ (b / 13 = led ∧ b / 13 = t ∧ ¬ (a / 13 = led ↔ a / 13 = t))
    · exfalso; omega
    clear hbad
    have HA1 := Lib.hid a1
    have HA2 := Lib.hid a2
    have HB1 := Lib.hid b1
    have HB2 := Lib.hid b2
    clear a1 a2 b1 b2
    go_enter Try.func42, Try.ntmps42
    go_wp2
    go_ret
    refine ⟨bool_ret ?_, rfl⟩
    rw [HE.out, Bool.eq_iff_iff]
    have q1 := HA1.out
    have q2 := HA2.out
    have q3 := HB1.out
    have q4 := HB2.out
    (repeat' split) <;> (try simp) <;> omega
end Go.Proofs.Ytdlnilebnobllaa

/- The reference of chapter 13 over this seat's program: Dealt. -/
namespace Go.Proofs.Ytdlnilebnobllaa
open Go.RowKit Go.Shelf Go.Sort

/-- how many of the first k hands have a card -/
def seatN (h : Nat → Nat) (c : Nat) : Nat → Nat
  | 0 => 0
  | k + 1 => seatN h c k + if (h k).testBit c then 1 else 0
theorem seatN_le (h : Nat → Nat) (c : Nat) : ∀ k, seatN h c k ≤ k
  | 0 => Nat.le_refl _
  | k + 1 => by have := seatN_le h c k; unfold seatN; split <;> omega
theorem seatN_pos (h : Nat → Nat) (c : Nat) : ∀ k, 0 < seatN h c k ↔ ∃ s, s < k ∧ (h s).testBit c = true
  | 0 => by simp [seatN]
  | k + 1 => by
    unfold seatN
    have ih := seatN_pos h c k
    cases hb : (h k).testBit c
    · simp only [Bool.false_eq_true, if_false, Nat.add_zero]
      rw [ih]
      constructor
      · rintro ⟨s, h1, h2⟩; exact ⟨s, by omega, h2⟩
      · rintro ⟨s, h1, h2⟩
        by_cases e : s = k
        · subst e; rw [hb] at h2; cases h2
        · exact ⟨s, by omega, h2⟩
    · exact ⟨fun _ => ⟨k, by omega, hb⟩, fun _ => by simp⟩
theorem seatN_two (h : Nat → Nat) (c : Nat) : ∀ k, 1 < seatN h c k ↔ ∃ s s', s < s' ∧ s' < k ∧ (h s).testBit c = true ∧ (h s').testBit c = true
  | 0 => by simp [seatN]
  | k + 1 => by
    unfold seatN
    have ih := seatN_two h c k
    have hp := seatN_pos h c k
    cases hb : (h k).testBit c
    · simp only [Bool.false_eq_true, if_false, Nat.add_zero]
      rw [ih]
      constructor
      · rintro ⟨s, s', h1, h2, h3⟩; exact ⟨s, s', h1, by omega, h3⟩
      · rintro ⟨s, s', h1, h2, h3, h4⟩
        by_cases e : s' = k
        · subst e; rw [hb] at h4; cases h4
        · exact ⟨s, s', h1, by omega, h3, h4⟩
    · simp only [if_true]
      constructor
      · intro h1
        obtain ⟨s, h2, h3⟩ := hp.1 (by omega)
        exact ⟨s, k, h2, by omega, h3, hb⟩
      · rintro ⟨s, s', h1, h2, h3, h4⟩
        have := hp.2 ⟨s, by omega, h3⟩
        omega
/-- a card lies right -/
def fineAt (h : Nat → Nat) (c : Nat) : Prop := seatN h c 4 ≤ 1 ∧ (0 < seatN h c 4 → c ≤ 51)
theorem pack_fine {h : Nat → Nat} (hp : Pack h) (c : Nat) : fineAt h c := by
  refine ⟨?_, fun h0 => ?_⟩
  · rcases Nat.lt_or_ge 1 (seatN h c 4) with h1 | h1
    · obtain ⟨s, s', h2, h3, h4, h5⟩ := (seatN_two h c 4).1 h1
      have := hp.apart s s' c (by omega) h3 (by omega) h4
      rw [h5] at this; cases this
    · exact h1
  · obtain ⟨s, h1, h2⟩ := (seatN_pos h c 4).1 h0
    have := hp.le s c h1 h2; omega
theorem fine_pack {h : Nat → Nat} (hw : ∀ j, W64 (h j)) (hf : ∀ c, c < 64 → fineAt h c) : Pack h := by
  have h64 : ∀ s c, (h s).testBit c = true → c < 64 := fun s c hb => by
    rcases Nat.lt_or_ge c 64 with h1 | h1
    · exact h1
    · have : (h s).testBit c = false := Nat.testBit_lt_two_pow (Nat.lt_of_lt_of_le (hw s).lt (Nat.pow_le_pow_right (by decide) h1))
      rw [this] at hb; cases hb
  refine ⟨fun s s' c hs hs' hne hb => ?_, fun s c hs hb => ?_⟩
  · cases hb' : (h s').testBit c
    · rfl
    · have h1 := (hf c (h64 s c hb)).1
      rcases Nat.lt_or_gt_of_ne hne with h2 | h2
      · have := (seatN_two h c 4).2 ⟨s, s', h2, hs', hb, hb'⟩; omega
      · have := (seatN_two h c 4).2 ⟨s', s, h2, hs, hb', hb⟩; omega
  · have := (hf c (h64 s c hb)).2 ((seatN_pos h c 4).2 ⟨s, hs, hb⟩); omega
theorem cnt_top (m : Nat) (h : ∀ c, m.testBit c = true → c < 52) : cnt m 52 = pop m := by
  have : ∀ k, cnt m (52 + k) = cnt m 52 := by
    intro k
    induction k with
    | zero => rfl
    | succ k ih =>
      rw [← Nat.add_assoc, cnt, ih]
      cases hb : m.testBit (52 + k)
      · rfl
      · have := h _ hb; omega
  exact (this 12).symm
theorem dealt_parts {r : Rc} (hd : r.dealt = true) : r.t ≤ 4 ∧ r.d ≤ 3 ∧ (∀ s, s < 4 → cnt (r.h s) 52 = cnt (r.h 0) 52) ∧ cnt (r.h 0) 52 ≠ 0 := by
  have hp := dealt_pack hd
  have hc := fun s hs => cnt_top (r.h s) (fun c hb => hp.le s c hs hb)
  unfold Rc.dealt at hd
  rw [Bool.and_eq_true, Bool.and_eq_true, Bool.and_eq_true, decide_eq_true_eq, decide_eq_true_eq, decide_eq_true_eq] at hd
  refine ⟨hd.1.2, hd.2, fun s hs => ?_, ?_⟩
  · have := handsTo_at r.h 4 s hs hd.1.1.1
    unfold handB at this
    rw [Bool.and_eq_true, beq_iff_eq] at this
    rw [hc s hs, hc 0 (by omega)]
    exact this.2
  · rw [hc 0 (by omega)]; omega
theorem dealt_of {r : Rc} (hw : ∀ j, W64 (r.h j)) (hf : ∀ c, c < 64 → fineAt r.h c) (hn : ∀ s, s < 4 → cnt (r.h s) 52 = cnt (r.h 0) 52) (h0 : cnt (r.h 0) 52 ≠ 0) (ht : r.t ≤ 4) (hd : r.d ≤ 3) : r.dealt = true := by
  have hp := fine_pack hw hf
  have hc := fun s hs => cnt_top (r.h s) (fun c hb => hp.le s c hs hb)
  exact dealt_mk hp (n := cnt (r.h 0) 52) (fun j hj => by rw [← hc j hj]; exact hn j hj) (by omega) ht hd
theorem not_dealt {r : Rc} (h : r.dealt = true → False) : r.dealt = false := by
  cases hd : r.dealt
  · rfl
  · exact (h hd).elim

/-- the first k cards lie right -/
def FineTo (h : Nat → Nat) (k : Nat) : Prop := ∀ c, c < k → fineAt h c
theorem FineTo.zero (h : Nat → Nat) : FineTo h 0 := fun c hc => by omega
theorem FineTo.next {h : Nat → Nat} {k : Nat} (hf : FineTo h k) (h1 : fineAt h k) : FineTo h (k + 1) := fun c hc => by
  by_cases e : c = k
  · subst e; exact h1
  · exact hf c (by omega)
theorem FineTo.all {h : Nat → Nat} (hf : FineTo h 64) : ∀ c, c < 64 → fineAt h c := hf
/-- the first k hands are as long as the first -/
def SameTo (h : Nat → Nat) (k : Nat) : Prop := ∀ s, s < k → cnt (h s) 52 = cnt (h 0) 52
theorem SameTo.one (h : Nat → Nat) : SameTo h 1 := by
  intro s hs
  have : s = 0 := by omega
  rw [this]
theorem SameTo.next {h : Nat → Nat} {k : Nat} (hf : SameTo h k) (h1 : cnt (h k) 52 = cnt (h 0) 52) : SameTo h (k + 1) := fun s hs => by
  by_cases e : s = k
  · subst e; exact h1
  · exact hf s (by omega)
set_option maxHeartbeats 1000000 in
set_option maxRecDepth 100000 in
theorem rf_dealt (r : Rc) (a : Option Addr) (len cap : Nat) (w : World) (hw : ∀ j, W64 (r.h j)) :
    Calls Try.prog 40 #[r.v a len cap] w fun e w' => e = .returned (.bool r.dealt) ∧ Below w.heap.size w w' := by
  have HW := Lib.hid hw
  have hs0 := rf_size (r.h 0) (hw 0)
  have HS0 := Lib.hid hs0
  clear hs0
  have hB0 := (Below.refl w.heap.size w).alloc (Nat.le_refl _) (.cells (r.cells a len cap) 57)
  have hR0 := Row.new w 57 (r.cells a len cap)
  by_cases ht : 4 < r.t
  · have HD := Lib.hid (not_dealt (r := r) fun h => by have := (dealt_parts h).1; omega)
    rw [HD.out]
    go_enter Try.func40, Try.ntmps40
    go_wp2
    go_ret
    exact ⟨rfl, hB0⟩
  by_cases hd : 3 < r.d
  · have HD := Lib.hid (not_dealt (r := r) fun h => by have := (dealt_parts h).2.1; omega)
    rw [HD.out]
    go_enter Try.func40, Try.ntmps40
    go_wp2
    go_ret
    exact ⟨rfl, hB0⟩
  by_cases hz : cnt (r.h 0) 52 = 0
  · have HD := Lib.hid (not_dealt (r := r) fun h => by exact (dealt_parts h).2.2.2 hz)
    have HZ := Lib.hid hz
    rw [HD.out]
    clear hz
    go_enter Try.func40, Try.ntmps40
    go_wp2_with (go_at_call 44; refine (HS0.out _).mono ?_; rw [HZ.out]; rintro e w' ⟨rfl, rfl⟩)
    go_ret
    exact ⟨rfl, hB0⟩
  have hle0 := cnt_le (r.h 0) 52
  obtain ⟨n0, hn0⟩ : ∃ n0, n0 = cnt (r.h 0) 52 := ⟨_, rfl⟩
  rw [← hn0] at hz hle0 HS0
  have hzI : ((n0 : Int) == 0) = false := by rw [beq_eq_false_iff_ne]; omega
  have HN0 := Lib.hid hn0
  clear hn0
  go_enter Try.func40, Try.ntmps40
  go_wp2_with (go_at_call 44; refine (HS0.out _).mono ?_; rintro e w' ⟨rfl, rfl⟩)
  generalize w.alloc (.cells (r.cells a len cap) 57) = w0 at *
  go_loopg [3, 4, 5] 64 (fun gk c _ _ wr => ∃ k : Nat, gk = 64 - k ∧ k ≤ 64 ∧ c = .int .i64 (k : Int) ∧ FineTo r.h k ∧ wr = w0)
  case atStart => exact ⟨0, by omega, by omega, rfl, FineTo.zero _, rfl⟩
  case round =>
    obtain ⟨k, rfl, hk, rfl, hfine, rfl⟩ := hrel
    by_cases hlt : k < 64
    · have HNX := Lib.hid (fun (h : fineAt r.h k) => hfine.next h)
      have HBD := Lib.hid (fun (h : ¬ fineAt r.h k) => not_dealt (r := r) fun h2 => h (pack_fine (dealt_pack h2) k))
      clear hfine
      have hltB : decide ((k : Int) < 64) = true := by rw [decide_eq_true_eq]; omega
      go_wp2_with fail
      go_loopg [4, 5] 4 (fun gj n s wr' => ∃ j : Nat, gj = 4 - j ∧ j ≤ 4 ∧ s = .int .i64 (j : Int) ∧ n = .int .i64 (seatN r.h k j : Int) ∧ wr' = wr)
      case atStart => exact ⟨0, by omega, by omega, rfl, rfl, rfl⟩
      case round =>
        obtain ⟨j, rfl, hj, rfl, rfl, rfl⟩ := hrel
        have hle := seatN_le r.h k j
        by_cases hjl : j < 4
        · have HS := Lib.hid (show seatN r.h k (j + 1) = seatN r.h k j + if (r.h j).testBit k then 1 else 0 from rfl)
          have hcs : wr.cell? ⟨w.heap.size, j, none⟩ = some (.int .u64 (r.h j : Int)) := by
            rw [hR0.cell j]
            rcases (show j = 0 ∨ j = 1 ∨ j = 2 ∨ j = 3 by omega) with h | h | h | h <;> rw [h] <;> rfl
          have hh := rf_has (r.h j) k (HW.out j) (by omega) wr
          have HH := Lib.hid hh
          clear hh
          generalize seatN r.h k j = m at *
          cases hb : (r.h j).testBit k
          · have HB := Lib.hid hb
            clear hb
            go_wp2_with (go_at_call 43; refine HH.out.mono ?_; rw [HB.out]; rintro e w' ⟨rfl, rfl⟩)
            go_roundg (4 - (j + 1))
            case rel => exact ⟨j + 1, rfl, by omega, by go_num, by rw [HS.out, HB.out]; simp, rfl⟩
            case measure => omega
          · have HB := Lib.hid hb
            clear hb
            go_wp2_with (go_at_call 43; refine HH.out.mono ?_; rw [HB.out]; rintro e w' ⟨rfl, rfl⟩)
            go_roundg (4 - (j + 1))
            case rel => exact ⟨j + 1, rfl, by omega, by go_num, by rw [HS.out, HB.out]; simp, rfl⟩
            case measure => omega
        · have hje : j = 4 := by omega
          subst hje
          have HFI : Hid (fineAt r.h k ↔ seatN r.h k 4 ≤ 1 ∧ (0 < seatN r.h k 4 → k ≤ 51)) := Iff.rfl
          generalize seatN r.h k 4 = m at *
          by_cases hf : m ≤ 1 ∧ (0 < m → k ≤ 51)
          · have HN1 := Lib.hid (HNX.out (HFI.out.2 hf))
            by_cases hm0 : m = 0
            · subst hm0
              go_wp2
              go_roundg (64 - (k + 1))
              case rel => exact ⟨k + 1, rfl, by omega, by go_num, HN1.out, rfl⟩
              case measure => omega
            · have hm1 : m = 1 := by omega
              subst hm1
              have hk51 : k ≤ 51 := hf.2 (by omega)
              clear hf
              go_wp2
              go_roundg (64 - (k + 1))
              case rel => exact ⟨k + 1, rfl, by omega, by go_num, HN1.out, rfl⟩
              case measure => omega
          · have HD := Lib.hid (HBD.out (fun h => hf (HFI.out.1 h)))
            by_cases hm1 : 1 < m
            · clear hf
              go_wp2
              go_ret
              exact ⟨by rw [HD.out]; rfl, hB0⟩
            · have hm1' : m = 1 := by
                by_cases h : m = 0
                · exact absurd ⟨by omega, fun h' => by omega⟩ hf
                · omega
              subst hm1'
              have hk51 : 51 < k := by
                rcases Nat.lt_or_ge 51 k with h | h
                · exact h
                · exact absurd ⟨by omega, fun _ => h⟩ hf
              clear hf
              go_wp2
              go_ret
              exact ⟨by rw [HD.out]; rfl, hB0⟩
    · have hke : k = 64 := by omega
      subst hke
      have HPF := Lib.hid hfine.all
      clear hfine
      go_wp2_with fail
      obtain ⟨wo, rfl⟩ : ∃ wo : World, wo = wr := ⟨_, rfl⟩
      go_loopg [6] 3 (fun gs s wr => ∃ j : Nat, gs = 4 - j ∧ 1 ≤ j ∧ j ≤ 4 ∧ s = .int .i64 (j : Int) ∧ SameTo r.h j ∧ Row wr w.heap.size 57 (r.cells a len cap) ∧ Below w.heap.size w wr)
      case atStart => exact ⟨1, by omega, by omega, by omega, rfl, SameTo.one _, hR0, hB0⟩
      case round =>
        obtain ⟨j, rfl, hj1, hj4, rfl, hsame, hRr, hBr⟩ := hrel
        by_cases hjl : j < 4
        · have hcs : wr.cell? ⟨w.heap.size, j, none⟩ = some (.int .u64 (r.h j : Int)) := by
            rw [hRr.cell j]
            rcases (show j = 0 ∨ j = 1 ∨ j = 2 ∨ j = 3 by omega) with h | h | h | h <;> rw [h] <;> rfl
          have hc0 := hRr.cell 0
          simp only [List.getElem?_toArray, List.getElem?_cons_zero] at hc0
          have rcs := fun dd os => cell_regrown hcs dd os
          have rc0 := fun dd os => cell_regrown hc0 dd os
          have HNX := Lib.hid (fun (h : cnt (r.h j) 52 = cnt (r.h 0) 52) => hsame.next h)
          have HBD := Lib.hid (fun (h : ¬ cnt (r.h j) 52 = cnt (r.h 0) 52) => not_dealt (r := r) fun h2 => h ((dealt_parts h2).2.2.1 j hjl))
          have hsz := hBr.size
          clear hsame
          have HSZ := Lib.hid (fun (k : Nat) (wx : World) => (rf_size (r.h k) (HW.out k) wx))
          by_cases heq : cnt (r.h j) 52 = cnt (r.h 0) 52
          · have heB : ((cnt (r.h j) 52 : Int) != (cnt (r.h 0) 52 : Int)) = false := by rw [bne_eq_false_iff_eq]; omega
            have HE := Lib.hid heq
            clear heq
            go_wp2
            refine wp_region_quiet_below (by kernel_rfl) (by kernel_rfl) ?_
            repeat (quiet_step ((exact Calls.regrown_of ((HSZ.out _ _).mono fun _ _ ⟨he, hw⟩ => ⟨he, hw ▸ Below.refl _ _⟩))))
            refine wpQuiet_nil ?_
            rintro _ ⟨p, rfl⟩
            clear rcs rc0
            have hb8 := below_regrown wr p.d p.os
            generalize grow (redrawn wr p.d) p.os = w9 at *
            have hR9 := hRr.below hRr.lt hb8
            have hB9 := hBr.trans (hb8.mono hsz)
            go_wp2
            go_roundg (4 - (j + 1))
            case rel => exact ⟨j + 1, rfl, by omega, by omega, by go_num, HNX.out HE.out, hR9, hB9⟩
            case measure => omega
          · have heB : ((cnt (r.h j) 52 : Int) != (cnt (r.h 0) 52 : Int)) = true := by rw [bne_iff_ne]; omega
            have HE := Lib.hid heq
            clear heq
            go_wp2
            refine wp_region_quiet_below (by kernel_rfl) (by kernel_rfl) ?_
            repeat (quiet_step ((exact Calls.regrown_of ((HSZ.out _ _).mono fun _ _ ⟨he, hw⟩ => ⟨he, hw ▸ Below.refl _ _⟩))))
            refine wpQuiet_nil ?_
            rintro _ ⟨p, rfl⟩
            clear rcs rc0
            have hb8 := below_regrown wr p.d p.os
            generalize grow (redrawn wr p.d) p.os = w9 at *
            have hB9 := hBr.trans (hb8.mono hsz)
            go_wp2
            go_ret
            exact ⟨by rw [HBD.out HE.out]; rfl, hB9⟩
        · have hje : j = 4 := by omega
          subst hje
          have HD := Lib.hid (dealt_of HW.out HPF.out hsame (by rw [← HN0.out]; exact hz) (by omega) (by omega) : r.dealt = true)
          go_wp2
          go_ret
          exact ⟨by rw [HD.out]; rfl, hBr⟩
end Go.Proofs.Ytdlnilebnobllaa

/- The reference of chapter 13 over this seat's program: seats (plain). -/
namespace Go.Proofs.Ytdlnilebnobllaa
open Go.RowKit Go.Shelf Go.Sort

/-- the best card of a trick that begins at i, after m cards behind the first -/
def bestR (t : Nat) (zs : List Nat) (i : Nat) : Nat → Nat
  | 0 => i
  | m + 1 => if betR (zs.getD (i + m + 1) 0) (zs.getD (bestR t zs i m) 0) (zs.getD i 0 / 13) t then i + m + 1 else bestR t zs i m
theorem bestR_ge (t : Nat) (zs : List Nat) (i : Nat) : ∀ m, i ≤ bestR t zs i m ∧ bestR t zs i m ≤ i + m
  | 0 => ⟨Nat.le_refl _, Nat.le_refl _⟩
  | m + 1 => by
    have := bestR_ge t zs i m
    unfold bestR
    split <;> omega
theorem strR_eq (t c d : Nat) (hc : c < 52) (hd : d < 52) : strength t (suit d) c = strR t (d / 13) c := by
  unfold strength suit rank strR
  simp only [if_pos hc, if_pos hd]
theorem bestR_eq (t : Nat) (zs : List Nat) (i : Nat) (h : ∀ j, j < 4 → zs.getD (i + j) 0 < 52) : ∀ m, m < 4 → bestR t zs i m = i + bestTo (fun c => (strength t (suit (((zs.drop i).take 4).getD 0 0)) c : Int)) ((zs.drop i).take 4) (m + 1)
  | 0, _ => by
    rw [bestTo, bestTo, if_neg (by omega)]; rfl
  | m + 1, hm => by
    have ih := bestR_eq t zs i h m (by omega)
    have hb := bestR_ge t zs i m
    have hg : ∀ j, j < 4 → ((zs.drop i).take 4).getD j 0 = zs.getD (i + j) 0 := fun j hj => by rw [getD_take _ hj, getD_drop]
    rw [bestR, bestTo]
    obtain ⟨b, hb'⟩ : ∃ b, b = bestTo (fun c => (strength t (suit (((zs.drop i).take 4).getD 0 0)) c : Int)) ((zs.drop i).take 4) (m + 1) := ⟨_, rfl⟩
    rw [← hb'] at ih ⊢
    rw [ih]
    rw [ih] at hb
    rw [hg b (by omega), hg (m + 1) (by omega), hg 0 (by omega), strR_eq t _ _ (h b (by omega)) (h 0 (by omega)), strR_eq t _ _ (h (m + 1) (by omega)) (h 0 (by omega))]
    simp only [Nat.add_zero]
    unfold betR
    rw [Nat.add_assoc]
    by_cases hq : strR t (zs.getD i 0 / 13) (zs.getD (i + b) 0) < strR t (zs.getD i 0 / 13) (zs.getD (i + (m + 1)) 0)
    · have hq' : ((strR t (zs.getD i 0 / 13) (zs.getD (i + b) 0) : Nat) : Int) < ((strR t (zs.getD i 0 / 13) (zs.getD (i + (m + 1)) 0) : Nat) : Int) := by omega
      rw [if_pos (decide_eq_true hq), if_pos hq']
    · have hq' : ¬ ((strR t (zs.getD i 0 / 13) (zs.getD (i + b) 0) : Nat) : Int) < ((strR t (zs.getD i 0 / 13) (zs.getD (i + (m + 1)) 0) : Nat) : Int) := by omega
      rw [if_neg (by rw [decide_eq_true_eq]; exact hq), if_neg hq']
/-- cards that are right -/
theorem good_lt {r : Rc} (hd : r.dealt = true) {i : Nat} (hi : i < r.good) : r.zs.getD i 0 < 52 :=
  (dealt_pack hd).le _ _ (seatAt_lt _ _ _ _) (good_ok hd i hi).1
theorem good_nodup {r : Rc} (hd : r.dealt = true) : (r.zs.take r.good).Nodup := by
  have hl := good_le r
  rw [List.Nodup, List.pairwise_iff_getElem]
  intro i j hi hj hij
  have hj' : j < r.good := by simp at hj; omega
  have h2 := (good_ok hd j hj').2
  intro he
  refine h2 ?_
  rw [List.getElem_take, List.getElem_take] at he
  have : r.zs.getD j 0 = r.zs[i]'(by omega) := by rw [List.getD_eq_getElem?_getD, List.getElem?_eq_getElem (by omega), he]; rfl
  rw [this]
  exact List.mem_take_iff_getElem.2 ⟨i, by omega, rfl⟩
theorem good_trick {r : Rc} (hd : r.dealt = true) {j : Nat} (hj : 4 * (j + 1) ≤ r.good) : (winnerV r.t ((r.zs.drop (4 * j)).take 4)).2 = 0 ∧ (winnerV r.t ((r.zs.drop (4 * j)).take 4)).1 = bestTo (fun c => (strength r.t (suit (((r.zs.drop (4 * j)).take 4).getD 0 0)) c : Int)) ((r.zs.drop (4 * j)).take 4) 4 := by
  have hl := good_le r
  have h4 : ((r.zs.drop (4 * j)).take 4).length = 4 := by simp; omega
  have ht := (dealt_parts hd).1
  have hR : rightB ((r.zs.drop (4 * j)).take 4) = true := by
    refine rightB_four h4 (fun c hc => ?_) ?_
    · obtain ⟨k, hk, he⟩ := List.mem_iff_getElem.1 hc
      rw [List.getElem_take, List.getElem_drop] at he
      have := good_lt hd (i := 4 * j + k) (by omega)
      rw [List.getD_eq_getElem?_getD, List.getElem?_eq_getElem (by omega)] at this
      rw [← he]; exact this
    · have hs : List.Sublist ((r.zs.drop (4 * j)).take 4) (r.zs.take r.good) := by
        have e : (r.zs.drop (4 * j)).take 4 = ((r.zs.take r.good).drop (4 * j)).take 4 := by
          rw [List.drop_take, List.take_take, Nat.min_eq_left (by omega)]
        rw [e]
        exact (List.take_sublist _ _).trans (List.drop_sublist _ _)
      exact hs.nodup (good_nodup hd)
  unfold winnerV
  rw [if_neg (by omega), if_pos hR, h4]
  exact ⟨rfl, rfl⟩
/-- who won a trick leads to the next -/
theorem seat_best {r : Rc} (hd : r.dealt = true) {j : Nat} (hj : 4 * (j + 1) ≤ r.good) : seatAt r.t r.ld0 r.zs (bestR r.t r.zs (4 * j) 3) = ldAt r.t r.ld0 r.zs (j + 1) := by
  obtain ⟨h1, h2⟩ := good_trick hd hj
  have hb := bestR_eq r.t r.zs (4 * j) (fun q hq => good_lt hd (by omega)) 3 (by omega)
  have hg := bestR_ge r.t r.zs (4 * j) 3
  rw [hb] at hg ⊢
  have hl := ldAt_lt r.t r.ld0 r.zs (show r.ld0 < 4 from Nat.mod_lt _ (by omega)) j
  rw [ldAt]
  unfold seatV
  rw [if_neg (by omega), if_pos h1, h2]
  dsimp only
  unfold seatAt
  generalize bestTo (fun c => (strength r.t (suit (((r.zs.drop (4 * j)).take 4).getD 0 0)) c : Int)) ((r.zs.drop (4 * j)).take 4) (3 + 1) = b at *
  rw [show (4 * j + b) / 4 = j by omega, show (4 * j + b) % 4 = b by omega]
/-- the seats of the first cards -/
def seatsTo (r : Rc) (i : Nat) : List Nat := (List.range i).map (seatAt r.t r.ld0 r.zs)
theorem seatsTo_length (r : Rc) (i : Nat) : (seatsTo r i).length = i := by simp [seatsTo]
theorem seatsTo_succ (r : Rc) (i : Nat) : seatsTo r (i + 1) = seatsTo r i ++ [seatAt r.t r.ld0 r.zs i] := by simp [seatsTo, List.range_succ]
theorem seatsTo_get (r : Rc) {i k : Nat} (h : k < i) : (seatsTo r i).getD k 0 = seatAt r.t r.ld0 r.zs k := by
  rw [List.getD_eq_getElem?_getD, seatsTo, List.getElem?_map, List.getElem?_range h]; rfl
theorem seatsTo_lt (r : Rc) (i k : Nat) : (seatsTo r i).getD k 0 < 4 := by
  rcases Nat.lt_or_ge k i with h | h
  · rw [seatsTo_get r h]; exact seatAt_lt _ _ _ _
  · rw [List.getD_eq_getElem?_getD, List.getElem?_eq_none (by rw [seatsTo_length]; exact h)]; simp
/-- what seats returns -/
def Rc.stop (r : Rc) : Int := if r.good < r.zs.length then (r.good : Int) else -1
theorem stop_at {r : Rc} (hd : r.dealt = true) {i : Nat} (hi : i ≤ r.good) (hl : i < r.zs.length) (hb : ¬ okAt r.h r.t r.ld0 r.zs i) : r.good = i ∧ r.stop = (i : Int) := by
  have : r.good = i := by
    rcases Nat.lt_or_eq_of_le hi with h | h
    · exact absurd (good_ok hd i h) hb
    · exact h.symm
  refine ⟨this, ?_⟩
  unfold Rc.stop
  rw [this, if_pos hl]
theorem go_on {r : Rc} (hd : r.dealt = true) {i : Nat} (hi : i ≤ r.good) (hb : okAt r.h r.t r.ld0 r.zs i) (hl : i < r.zs.length) : i + 1 ≤ r.good := by
  rcases Nat.lt_or_eq_of_le hi with h | h
  · omega
  · have := (rc_flat hd).2 (by rw [← h]; exact hl)
    rw [← h] at this
    exact absurd hb this
end Go.Proofs.Ytdlnilebnobllaa
