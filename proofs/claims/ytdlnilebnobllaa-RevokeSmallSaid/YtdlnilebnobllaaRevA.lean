/- Contracts of package revoke over this seat's program: rounds, dealt. -/
import Derived.Test.YtdlnilebnobllaaRounds
import Derived.LoopN
namespace Go.Proofs.Ytdlnilebnobllaa
open Go.RowKit Go.Shelf Go.Sort

theorem rev_rounds (r : Rc) (a : Option Addr) (len cap : Nat) (w : World) :
    Calls Try.prog 35 #[r.v a len cap] w fun e w' =>
      e = .returned (.func (.func 49) #[] #[.pointer (some ⟨w.heap.size, 0, none⟩)]) ∧ w' = w.alloc (.cells (r.cells a len cap) 27) := by
  go_enter Try.func35, Try.ntmps35
  go_wp2
  go_ret
  exact ⟨rfl, rfl⟩

/-- the first k hands together -/
def allTo (h : Nat → Nat) : Nat → Nat
  | 0 => 0
  | k + 1 => lor (allTo h k) (h k)
theorem allTo_w64 {h : Nat → Nat} (hw : ∀ j, W64 (h j)) : ∀ k, W64 (allTo h k)
  | 0 => W64.zero
  | k + 1 => (allTo_w64 hw k).lor (hw k)
/-- hand k is right beside the hands before it -/
def handB (h : Nat → Nat) (k : Nat) : Bool := decide (h k < 4503599627370496) && (land (allTo h k) (h k) == 0) && (pop (h k) == pop (h 0))
/-- the first k hands are right -/
def handsTo (h : Nat → Nat) : Nat → Bool
  | 0 => true
  | k + 1 => handsTo h k && handB h k
/-- revoke.dealt -/
def Rc.dealt (r : Rc) : Bool := handsTo r.h 4 && decide (0 < pop (r.h 0)) && decide (r.t ≤ 4) && decide (r.d ≤ 3)
theorem handsTo_mono (h : Nat → Nat) : ∀ n k, k ≤ n → handsTo h n = true → handsTo h k = true
  | 0, k, hk, hh => by obtain rfl : k = 0 := by omega
                       exact hh
  | n + 1, k, hk, hh => by
    rcases Nat.lt_or_ge k (n + 1) with h1 | h1
    · simp only [handsTo, Bool.and_eq_true] at hh; exact handsTo_mono h n k (by omega) hh.1
    · obtain rfl : k = n + 1 := by omega
      exact hh
theorem handsTo_false {h : Nat → Nat} {k : Nat} (hk : k < 4) (hb : handB h k = false) : handsTo h 4 = false := by
  cases hh : handsTo h 4
  · rfl
  · have := handsTo_mono h 4 (k + 1) (by omega) hh
    simp [handsTo, hb] at this
theorem ixd4 (x0 x1 x2 x3 : Int) (w : World) :
    (Instr.index 24 (.agg #[.int .u64 x0, .int .u64 x1, .int .u64 x2, .int .u64 x3]) (.int .i64 0)).run Try.prog w = .ok (.int .u64 x0) w ∧
    (Instr.index 24 (.agg #[.int .u64 x0, .int .u64 x1, .int .u64 x2, .int .u64 x3]) (.int .i64 1)).run Try.prog w = .ok (.int .u64 x1) w ∧
    (Instr.index 24 (.agg #[.int .u64 x0, .int .u64 x1, .int .u64 x2, .int .u64 x3]) (.int .i64 2)).run Try.prog w = .ok (.int .u64 x2) w ∧
    (Instr.index 24 (.agg #[.int .u64 x0, .int .u64 x1, .int .u64 x2, .int .u64 x3]) (.int .i64 3)).run Try.prog w = .ok (.int .u64 x3) w := by
  refine ⟨?_, ?_, ?_, ?_⟩ <;> kernel_rfl
theorem ixd (h : Nat → Nat) (k : Nat) (hk : k < 4) (w : World) : (Instr.index 24 (.agg #[.int .u64 (h 0 : Int), .int .u64 (h 1 : Int), .int .u64 (h 2 : Int), .int .u64 (h 3 : Int)]) (.int .i64 (k : Int))).run Try.prog w = .ok (.int .u64 (h k : Int)) w := by
  obtain ⟨h0, h1, h2, h3⟩ := ixd4 (h 0) (h 1) (h 2) (h 3) w
  have : k = 0 ∨ k = 1 ∨ k = 2 ∨ k = 3 := by omega
  rcases this with rfl | rfl | rfl | rfl
  · exact h0
  · exact h1
  · exact h2
  · exact h3

theorem rev_dealt (r : Rc) (a : Option Addr) (len cap : Nat) (w : World) (hw : ∀ j, W64 (r.h j)) :
    Calls Try.prog 38 #[r.v a len cap] w fun e w' => e = .returned (.bool r.dealt) ∧ Below w.heap.size w w' := by
  have hB : ∀ o, Below w.heap.size w (w.alloc o) := fun o => (Below.refl _ _).alloc (Nat.le_refl _) _
  have HB := Lib.hid hB
  clear hB
  have hw0 := hw 0
  go_enter Try.func38, Try.ntmps38
  go_wp2_with (go_at_call 51; refine (bits_ones _ hw0 _).mono ?_; rintro e w' ⟨rfl, rfl⟩)
  go_loop [3, 6, 13] (fun al _ i => ∃ k : Nat, k ≤ 4 ∧ i = .int .i64 k ∧ al = .int .u64 ((allTo r.h k : Nat) : Int) ∧ handsTo r.h k = true) (fun _ _ i => 4 - (intOf i).toNat)
  case atStart => exact ⟨0, by omega, rfl, rfl, rfl⟩
  case round =>
    obtain ⟨k, hk, rfl, rfl, hh⟩ := hrel
    have HH := Lib.hid hh
    clear hh
    have hal := allTo_w64 hw k
    have hwk := hw k
    by_cases hlt : k < 4
    · have hix := ixd r.h k hlt
      have hpop := bits_ones _ hwk
      by_cases h1 : r.h k < 4503599627370496
      · have h1' : ((r.h k : Int) / 4503599627370496 != 0) = false := by rw [bne_eq_false_iff_eq]; omega
        by_cases h2 : land (allTo r.h k) (r.h k) = 0
        · have h2' : (((land (allTo r.h k) (r.h k) : Nat) : Int) != 0) = false := by rw [bne_eq_false_iff_eq]; omega
          by_cases h3 : pop (r.h k) = pop (r.h 0)
          · have h3' : (((pop (r.h k) : Nat) : Int) != ((pop (r.h 0) : Nat) : Int)) = false := by rw [bne_eq_false_iff_eq]; omega
            have hb : handB r.h k = true := by simp [handB, h1, h2, h3]
            have HB3 := Lib.hid h3
            have HB2 := Lib.hid hb
            have HB4 := Lib.hid h2
            clear h3 hb h2
            go_wp2_with (go_at_call 51; refine (hpop _).mono ?_; rintro e w' ⟨rfl, rfl⟩)
            go_round
            case rel => exact ⟨k + 1, by omega, by go_num, rfl, by rw [handsTo, HH.out, HB2.out]; rfl⟩
            case measure => simp [intOf]; omega
          · have h3' : (((pop (r.h k) : Nat) : Int) != ((pop (r.h 0) : Nat) : Int)) = true := by rw [bne_iff_ne]; omega
            have hd : r.dealt = false := by unfold Rc.dealt; rw [handsTo_false hlt (by simp [handB, h3])]; rfl
            have HD := Lib.hid hd
            clear hd h3 h2
            go_wp2_with (go_at_call 51; refine (hpop _).mono ?_; rintro e w' ⟨rfl, rfl⟩)
            go_ret
            exact ⟨by rw [HD.out]; rfl, HB.out _⟩
        · have h2' : (((land (allTo r.h k) (r.h k) : Nat) : Int) != 0) = true := by rw [bne_iff_ne]; omega
          have hd : r.dealt = false := by unfold Rc.dealt; rw [handsTo_false hlt (by simp [handB, h2])]; rfl
          have HD := Lib.hid hd
          clear hd h2
          go_wp2_with (go_at_call 51; refine (hpop _).mono ?_; rintro e w' ⟨rfl, rfl⟩)
          go_ret
          exact ⟨by rw [HD.out]; rfl, HB.out _⟩
      · have h1' : ((r.h k : Int) / 4503599627370496 != 0) = true := by rw [bne_iff_ne]; omega
        have hd : r.dealt = false := by unfold Rc.dealt; rw [handsTo_false hlt (by simp [handB, h1])]; rfl
        have HD := Lib.hid hd
        clear hd
        go_wp2_with (go_at_call 51; refine (hpop _).mono ?_; rintro e w' ⟨rfl, rfl⟩)
        go_ret
        exact ⟨by rw [HD.out]; rfl, HB.out _⟩
    · obtain rfl : k = 4 := by omega
      have hd : r.dealt = (decide (0 < pop (r.h 0)) && decide (r.t ≤ 4) && decide (r.d ≤ 3)) := by unfold Rc.dealt; rw [HH.out]; rfl
      by_cases g1 : 0 < pop (r.h 0)
      · by_cases g2 : r.t ≤ 4
        · by_cases g3 : r.d ≤ 3
          · have HD := Lib.hid (show r.dealt = true by rw [hd]; simp [g1, g2, g3])
            clear hd
            have g3' : decide ((r.d : Int) ≤ 3) = true := by simp; omega
            go_wp2
            go_ret
            exact ⟨by rw [HD.out]; rfl, HB.out _⟩
          · have HD := Lib.hid (show r.dealt = false by rw [hd]; simp [g3])
            clear hd
            have g3' : decide ((r.d : Int) ≤ 3) = false := by simp; omega
            go_wp2
            go_ret
            exact ⟨by rw [HD.out]; rfl, HB.out _⟩
        · have HD := Lib.hid (show r.dealt = false by rw [hd]; simp [g2])
          clear hd
          go_wp2
          go_ret
          exact ⟨by rw [HD.out]; rfl, HB.out _⟩
      · have HD := Lib.hid (show r.dealt = false by rw [hd]; simp [g1])
        clear hd
        have g1' : decide ((0 : Int) < ((pop (r.h 0) : Nat) : Int)) = false := by simp; omega
        go_wp2
        go_ret
        exact ⟨by rw [HD.out]; rfl, HB.out _⟩
end Go.Proofs.Ytdlnilebnobllaa
