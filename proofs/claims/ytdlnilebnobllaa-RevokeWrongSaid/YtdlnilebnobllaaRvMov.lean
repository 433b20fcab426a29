/- revoke.moves over this seat's program. -/
import Derived.Test.YtdlnilebnobllaaRvWon
import Derived.Outline
namespace Go.Proofs.Ytdlnilebnobllaa
open Go.RowKit Go.Shelf Go.Sort

theorem rev_moves (ws : List Nat) (v : Rvk) (a : Option Addr) (len cap : Nat) (w : World) (hz : Byt w a len ws) (hlc : len ≤ cap) (hnil : a = none → cap = 0) (hv : v.trick < len) :
    Calls Try.prog 54 #[.agg #[.int .i64 (v.trick : Int), .int .u8 (v.seat : Int), .int .u8 (v.suit : Int), .int .u8 (v.card : Int), .bool v.est], .slice a len cap] w fun e w' => e = .returned (.int .i64 (movesV v ws : Int)) ∧ Below w.heap.size w w' := by
  obtain ⟨b, off, rfl, hb, hcs⟩ := hz.at (by omega)
  have hsm := hz.small
  have hc := hcs v.trick hv
  have hW0 : ∀ w1, Below w.heap.size w w1 → Calls Try.prog 52 #[.slice (some ⟨b, off, none⟩) len cap, .int .u8 ((v.seat : Int) % 2), .int .i64 (v.trick : Int)] w1 fun e w' => e = .returned (.int .i64 (wonV ws (v.seat % 2) v.trick : Int)) ∧ w1 = w' := by
    intro w1 h1
    have h := rev_won ws (v.seat % 2) v.trick (some ⟨b, off, none⟩) len cap w1 (hz.below (Nat.le_refl _) h1) hlc (by omega) hnil
    rwa [show (((v.seat % 2 : Nat)) : Int) = (v.seat : Int) % 2 from by omega] at h
  have hW1 : ∀ w1, Below w.heap.size w w1 → Calls Try.prog 52 #[.slice (some ⟨b, off, none⟩) len cap, .int .u8 ((v.seat : Int) % 2), .int .i64 ((v.trick : Int) + 1)] w1 fun e w' => e = .returned (.int .i64 (wonV ws (v.seat % 2) (v.trick + 1) : Int)) ∧ w1 = w' := by
    intro w1 h1
    have h := rev_won ws (v.seat % 2) (v.trick + 1) (some ⟨b, off, none⟩) len cap w1 (hz.below (Nat.le_refl _) h1) hlc (by omega) hnil
    rwa [show (((v.seat % 2 : Nat)) : Int) = (v.seat : Int) % 2 from by omega, show ((v.trick + 1 : Nat) : Int) = (v.trick : Int) + 1 from by omega] at h
  have HW0 := Lib.hid hW0
  have HW1 := Lib.hid hW1
  clear hW0 hW1 hcs
  have hB : ∀ o n, Below w.heap.size w ((w.alloc o).drewN n) := fun o n => by
    have h := (Below.refl w.heap.size w).alloc (Nat.le_refl _) o
    exact ⟨h.os, h.tape, h.output, h.size, h.block⟩
  have HB := Lib.hid hB
  clear hB
  unfold movesV
  generalize hgen : ws.getD v.trick 0 = c at *
  have HG := Lib.hid hgen
  clear hgen
  by_cases h1 : c = v.seat
  · have h1' : ((c : Int) == (v.seat : Int)) = true := by rw [beq_iff_eq]; omega
    rw [if_pos h1]
    have hle : wonV ws (v.seat % 2) (v.trick + 1) ≤ len := by unfold wonV; have := hz.length; exact Nat.le_trans List.countP_le_length (by rw [List.length_drop]; omega)
    clear h1
    generalize wonV ws (v.seat % 2) (v.trick + 1) = x at *
    rcases Nat.eq_zero_or_pos x with rfl | hx
    all_goals
      go_enter Try.func54, Try.ntmps54
      go_wp2
      go_quiet (fail)
      go_wp2_with (go_at_call 52; refine (HW1.out _ (HB.out _ _)).mono ?_; rintro e w' ⟨rfl, rfl⟩)
      go_ret
      exact ⟨by first | rfl | (congr 1; simp; omega), HB.out _ _⟩
  · have h1' : ((c : Int) == (v.seat : Int)) = false := by rw [beq_eq_false_iff_ne]; omega
    rw [if_neg h1]
    have hle : wonV ws (v.seat % 2) v.trick ≤ len := by unfold wonV; have := hz.length; exact Nat.le_trans List.countP_le_length (by rw [List.length_drop]; omega)
    clear h1
    generalize wonV ws (v.seat % 2) v.trick = x at *
    rcases Nat.eq_zero_or_pos x with rfl | hx
    all_goals
      go_enter Try.func54, Try.ntmps54
      go_wp2
      go_quiet (fail)
      go_wp2_with (go_at_call 52; refine (HW0.out _ (HB.out _ _)).mono ?_; rintro e w' ⟨rfl, rfl⟩)
      go_ret
      exact ⟨by first | rfl | (congr 1; simp; omega), HB.out _ _⟩
end Go.Proofs.Ytdlnilebnobllaa
