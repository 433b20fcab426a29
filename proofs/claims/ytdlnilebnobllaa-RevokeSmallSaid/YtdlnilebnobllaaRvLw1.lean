/- finesselaw13.mask, holder, winner over this seat's program. -/
import Derived.Test.YtdlnilebnobllaaRevA
import Derived.LoopN
namespace Go.Proofs.Ytdlnilebnobllaa
open Go.RowKit Go.Shelf Go.Sort

/-- the mask of cards -/
def maskTo (zs : List Nat) : Nat → Nat
  | 0 => 0
  | k + 1 => lor (maskTo zs k) (shl1 (zs.getD k 0))
theorem maskTo_w64 (zs : List Nat) : ∀ k, W64 (maskTo zs k)
  | 0 => W64.zero
  | k + 1 => (maskTo_w64 zs k).lor (W64.shl1 _)
def maskV (zs : List Nat) : Nat := maskTo zs zs.length
theorem law_mask (a : Option Addr) (len cap : Nat) (zs : List Nat) (w : World) (hz : Byt w a len zs) :
    Calls Try.prog 14 #[.slice a len cap] w fun e w' => e = .returned (.int .u64 (maskV zs : Int)) ∧ w = w' := by
  have HL := Lib.hid hz.length
  have hsm := hz.small
  go_enter Try.func14, Try.ntmps14
  go_wp2
  go_loop [3, 5, 8] (fun m _ i => ∃ k : Nat, k ≤ len ∧ i = .int .i64 (k : Int) ∧ m = .int .u64 (maskTo zs k : Int)) (fun _ _ i => len - (intOf i).toNat)
  case atStart => exact ⟨0, by omega, rfl, rfl⟩
  case round =>
    obtain ⟨k, hk, rfl, rfl⟩ := hrel
    by_cases hlt : k < len
    · obtain ⟨b, off, rfl, hb, hcs⟩ := hz.at (by omega)
      have hc := hcs k hlt
      have hw := maskTo_w64 zs k
      have hs : Hid (maskTo zs (k + 1) = lor (maskTo zs k) (shl1 (zs.getD k 0))) := rfl
      clear hcs
      generalize zs.getD k 0 = c at *
      generalize maskTo zs k = m at *
      go_wp2
      go_round
      case rel => exact ⟨k + 1, by omega, by go_num, by rw [hs.out]⟩
      case measure => simp [intOf]; omega
    · obtain rfl : k = len := by omega
      go_wp2
      go_ret
      exact ⟨by unfold maskV; rw [HL.out]; rfl, rfl⟩

/-- the seat that was dealt a card -/
def holdV (h : Nat → Nat) (c : Nat) : Nat := if (h 0).testBit c then 0 else if (h 1).testBit c then 1 else if (h 2).testBit c then 2 else if (h 3).testBit c then 3 else 4
theorem law_holder (h : Nat → Nat) (c : Nat) (w : World) (hw : ∀ j, W64 (h j)) :
    Calls Try.prog 22 #[.agg (arr4 h), .int .u8 (c : Int)] w fun e w' => e = .returned (.int .u8 (holdV h c : Int)) ∧ Below w.heap.size w w' := by
  have h0 := hw 0
  have h1 := hw 1
  have h2 := hw 2
  have h3 := hw 3
  have HB := Lib.hid (show ∀ o, Below w.heap.size w (w.alloc o) from fun o => (Below.refl _ _).alloc (Nat.le_refl _) _)
  unfold holdV
  cases q0 : (h 0).testBit c
  case' false => cases q1 : (h 1).testBit c
  case' false.false => cases q2 : (h 2).testBit c
  case' false.false.false => cases q3 : (h 3).testBit c
  all_goals
    go_enter Try.func22, Try.ntmps22
    go_wp2
    refine wp_loop_rounds 5 ?_
    repeat (rw [rounds_succ]; go_wp2)
    go_ret
    exact ⟨rfl, HB.out _⟩

/-- finesselaw13.winner -/
def lawBest (zs : List Nat) (t : Nat) : Nat → Nat
  | 0 => 0
  | k + 1 => if (zs.getD k 0 / 13 = zs.getD (lawBest zs t k) 0 / 13 ∧ zs.getD (lawBest zs t k) 0 < zs.getD k 0) ∨ (zs.getD k 0 / 13 = t ∧ zs.getD (lawBest zs t k) 0 / 13 ≠ t) then k else lawBest zs t k
theorem lawBest_lt (zs : List Nat) (t : Nat) : ∀ k, 0 < k → lawBest zs t k < k
  | 1, _ => by unfold lawBest; split <;> simp [lawBest]
  | k + 2, _ => by
    have := lawBest_lt zs t (k + 1) (by omega)
    rw [lawBest]; split <;> omega
theorem law_winner (a : Option Addr) (len cap t : Nat) (zs : List Nat) (w : World) (hz : Byt w a len zs) (h256 : len ≤ 256) :
    Calls Try.prog 33 #[.slice a len cap, .int .u8 (t : Int)] w fun e w' => e = .returned (.int .u8 (lawBest zs t len : Int)) ∧ w = w' := by
  have HL := Lib.hid hz.length
  go_enter Try.func33, Try.ntmps33
  go_wp2
  go_loop [5, 6, 7, 10] (fun b _ _ i => ∃ k : Nat, k ≤ len ∧ i = .int .i64 (k : Int) ∧ b = .int .i64 (lawBest zs t k : Int)) (fun _ _ _ i => len - (intOf i).toNat)
  case atStart => exact ⟨0, by omega, rfl, rfl⟩
  case round =>
    obtain ⟨k, hk, rfl, rfl⟩ := hrel
    by_cases hlt : k < len
    · obtain ⟨b, off, rfl, hb, hcs⟩ := hz.at (by omega)
      have hat : lawBest zs t k < len := by
        rcases Nat.eq_zero_or_pos k with h | h
        · subst h; simpa [lawBest] using hlt
        · exact Nat.lt_trans (lawBest_lt zs t k h) hlt
      have hc := hcs k hlt
      have hc2 := hcs _ hat
      have hby := hz.byte k
      have hby2 := hz.byte (lawBest zs t k)
      have HS : Hid (lawBest zs t (k + 1) = if (zs.getD k 0 / 13 = zs.getD (lawBest zs t k) 0 / 13 ∧ zs.getD (lawBest zs t k) 0 < zs.getD k 0) ∨ (zs.getD k 0 / 13 = t ∧ zs.getD (lawBest zs t k) 0 / 13 ≠ t) then k else lawBest zs t k) := rfl
      clear hcs
      generalize lawBest zs t k = m at *
      generalize zs.getD k 0 = c at *
      generalize zs.getD m 0 = d at *
      by_cases q1 : c / 13 = d / 13
      · have q1' : ((c : Int) / 13 == (d : Int) / 13) = true := by rw [beq_iff_eq]; omega
        by_cases q2 : d < c
        · have HN := Lib.hid (show lawBest zs t (k + 1) = k by rw [HS.out, if_pos (.inl ⟨q1, q2⟩)])
          clear q1
          go_wp2
          go_round
          case rel => exact ⟨k + 1, by omega, by go_num, by rw [HN.out]⟩
          case measure => simp [intOf]; omega
        · by_cases q3 : c / 13 = t
          · have q3' : ((c : Int) / 13 == (t : Int)) = true := by rw [beq_iff_eq]; omega
            have q4' : ((d : Int) / 13 != (t : Int)) = false := by rw [bne_eq_false_iff_eq]; omega
            have HN := Lib.hid (show lawBest zs t (k + 1) = m by rw [HS.out, if_neg (by omega)])
            clear q1 q3
            go_wp2
            go_round
            case rel => exact ⟨k + 1, by omega, by go_num, by rw [HN.out]⟩
            case measure => simp [intOf]; omega
          · have q3' : ((c : Int) / 13 == (t : Int)) = false := by rw [beq_eq_false_iff_ne]; omega
            have HN := Lib.hid (show lawBest zs t (k + 1) = m by rw [HS.out, if_neg (by omega)])
            clear q1
            go_wp2
            go_round
            case rel => exact ⟨k + 1, by omega, by go_num, by rw [HN.out]⟩
            case measure => simp [intOf]; omega
      · have q1' : ((c : Int) / 13 == (d : Int) / 13) = false := by rw [beq_eq_false_iff_ne]; omega
        by_cases q3 : c / 13 = t
        · have q3' : ((c : Int) / 13 == (t : Int)) = true := by rw [beq_iff_eq]; omega
          have q4' : ((d : Int) / 13 != (t : Int)) = true := by rw [bne_iff_ne]; omega
          have HN := Lib.hid (show lawBest zs t (k + 1) = k by rw [HS.out, if_pos (.inr ⟨q3, by omega⟩)])
          clear q3
          go_wp2
          go_round
          case rel => exact ⟨k + 1, by omega, by go_num, by rw [HN.out]⟩
          case measure => simp [intOf]; omega
        · have q3' : ((c : Int) / 13 == (t : Int)) = false := by rw [beq_eq_false_iff_ne]; omega
          have HN := Lib.hid (show lawBest zs t (k + 1) = m by rw [HS.out, if_neg (by omega)])
          go_wp2
          go_round
          case rel => exact ⟨k + 1, by omega, by go_num, by rw [HN.out]⟩
          case measure => simp [intOf]; omega
    · obtain rfl : k = len := by omega
      have hle : lawBest zs t k ≤ k := by
        rcases Nat.eq_zero_or_pos k with h | h
        · subst h; simp [lawBest]
        · exact Nat.le_of_lt (lawBest_lt zs t k h)
      have hl2 : lawBest zs t k < 256 := by
        rcases Nat.eq_zero_or_pos k with h | h
        · subst h; simp [lawBest]
        · have := lawBest_lt zs t k h; omega
      go_wp2
      go_ret
      exact ⟨rfl, rfl⟩
end Go.Proofs.Ytdlnilebnobllaa
