/- The contracts of auction.Leader and play.playable over this seat's program. -/
import Derived.Test.YtginbellakkliaaDoorMPyi
namespace Go.Proofs.YtginbellakkliaaDoor
open Go.RowKit Go.Shelf Go.Sort
attribute [local go_sem] Oper.semAt_some

/-- auction.Leader: the seat and the error -/
def leadV (lv dn rk dc : Nat) : Nat × Nat := if lv = 0 then (0, 6) else if lv ≤ 7 ∧ dn ≤ 4 ∧ rk ≤ 2 ∧ dc ≤ 3 then ((dc + 1) % 4, 0) else (0, 2)
theorem auction_leader (lv dn rk dc : Nat) (w : World) :
    Calls Tryd.prog 39 #[.agg #[.int .u8 (lv : Int), .int .u8 (dn : Int), .int .u8 (rk : Int), .int .u8 (dc : Int)]] w fun e w' => e = .returned (.tuple #[.int .u8 ((leadV lv dn rk dc).1 : Int), .int .i64 ((leadV lv dn rk dc).2 : Int)]) ∧ Below w.heap.size w w' := by
  have hb : ∀ o, Below w.heap.size w (w.alloc o) := fun o => (Below.refl _ _).alloc (Nat.le_refl _) o
  unfold leadV
  by_cases h0 : lv = 0
  · subst h0
    go_enter Tryd.func39, Tryd.ntmps39
    go_wp2_with fail
    go_ret2
    exact ⟨rfl, hb _⟩
  rw [if_neg h0]
  have b0 : ((lv : Int) == 0) = false := by rw [beq_eq_false_iff_ne]; omega
  rcases Nat.lt_or_ge 7 lv with h1 | h1
  · rw [if_neg (fun h => absurd h.1 (by omega))]
    have b1 : decide ((lv : Int) > 7) = true := by rw [decide_eq_true_eq]; omega
    go_enter Tryd.func39, Tryd.ntmps39
    go_wp2_with fail
    go_ret2
    exact ⟨rfl, hb _⟩
  have b1 : decide ((lv : Int) > 7) = false := by rw [decide_eq_false_iff_not]; omega
  rcases Nat.lt_or_ge 4 dn with h2 | h2
  · rw [if_neg (fun h => absurd h.2.1 (by omega))]
    have b2 : decide ((dn : Int) > 4) = true := by rw [decide_eq_true_eq]; omega
    go_enter Tryd.func39, Tryd.ntmps39
    go_wp2_with fail
    go_ret2
    exact ⟨rfl, hb _⟩
  have b2 : decide ((dn : Int) > 4) = false := by rw [decide_eq_false_iff_not]; omega
  rcases Nat.lt_or_ge 2 rk with h3 | h3
  · rw [if_neg (fun h => absurd h.2.2.1 (by omega))]
    have b3 : decide ((rk : Int) > 2) = true := by rw [decide_eq_true_eq]; omega
    go_enter Tryd.func39, Tryd.ntmps39
    go_wp2_with fail
    go_ret2
    exact ⟨rfl, hb _⟩
  have b3 : decide ((rk : Int) > 2) = false := by rw [decide_eq_false_iff_not]; omega
  rcases Nat.lt_or_ge 3 dc with h4 | h4
  · rw [if_neg (fun h => absurd h.2.2.2 (by omega))]
    have b4 : decide ((dc : Int) > 3) = true := by rw [decide_eq_true_eq]; omega
    go_enter Tryd.func39, Tryd.ntmps39
    go_wp2_with fail
    go_ret2
    exact ⟨rfl, hb _⟩
  have b4 : decide ((dc : Int) > 3) = false := by rw [decide_eq_false_iff_not]; omega
  rw [if_pos ⟨h1, h2, h3, h4⟩]
  have ew : IntKind.u8.wrap ((dc : Int) + 1) = (dc : Int) + 1 := by rw [IntKind.wrap_u8]; omega
  have et : ((dc : Int) + 1).tmod 4 = (((dc + 1) % 4 : Nat) : Int) := by rw [Int.tmod_eq_emod_of_nonneg (by omega)]; omega
  have ew2 : IntKind.u8.wrap (((dc + 1) % 4 : Nat) : Int) = (((dc + 1) % 4 : Nat) : Int) := by rw [IntKind.wrap_u8]; omega
  go_enter Tryd.func39, Tryd.ntmps39
  go_wp2_with fail
  go_ret2
  exact ⟨rfl, hb _⟩
/-- the cards of the first seats -/
def allTo (d : Nat → Nat) : Nat → Nat
  | 0 => 0
  | i + 1 => lor (allTo d i) (d i)
/-- the number of cards of the hand before -/
def numTo (d : Nat → Nat) (i : Nat) : Nat := if i = 0 then 0 else (downL (d (i - 1))).length
/-- hand i of a deal can be played -/
def handOk (d : Nat → Nat) (i : Nat) : Bool := decide (d i < 4503599627370496) && decide (1 ≤ (downL (d i)).length) && decide ((downL (d i)).length ≤ 13) && decide (land (allTo d i) (d i) = 0) && (decide (i = 0) || decide ((downL (d i)).length = numTo d i))
def dealOk (d : Nat → Nat) : Bool := handOk d 0 && handOk d 1 && handOk d 2 && handOk d 3
theorem dealOk_no {d : Nat → Nat} {k : Nat} (hk : k < 4) (h : handOk d k = false) : dealOk d = false := by
  unfold dealOk
  rcases (show k = 0 ∨ k = 1 ∨ k = 2 ∨ k = 3 by omega) with rfl | rfl | rfl | rfl <;> simp [h]
theorem dealOk_yes {d : Nat → Nat} (h : ∀ i, i < 4 → handOk d i = true) : dealOk d = true := by
  unfold dealOk; rw [h 0 (by omega), h 1 (by omega), h 2 (by omega), h 3 (by omega)]; rfl
theorem index_deal (d : Nat → Nat) (k : Nat) (hk : k < 4) (w : World) : Sem.run Tryd.prog (Instr.index 26 (.agg #[.int .u64 (d 0 : Int), .int .u64 (d 1 : Int), .int .u64 (d 2 : Int), .int .u64 (d 3 : Int)]) (.int .i64 (k : Int))) w = .ok (.int .u64 (d k : Int)) w := by
  rcases (show k = 0 ∨ k = 1 ∨ k = 2 ∨ k = 3 by omega) with rfl | rfl | rfl | rfl <;> kernel_rfl
theorem allTo_w64 {d : Nat → Nat} (h : ∀ i, i < 4 → W64 (d i)) : ∀ k, k ≤ 4 → W64 (allTo d k)
  | 0, _ => by unfold allTo; exact W64.of_lt (by decide)
  | k + 1, hk => by unfold allTo; exact (allTo_w64 h k (by omega)).lor (h k (by omega))
set_option maxHeartbeats 1000000 in
set_option maxRecDepth 100000 in
theorem play_playable (d : Nat → Nat) (hd : ∀ i, i < 4 → W64 (d i)) (w : World) :
    Calls Tryd.prog 40 #[.agg #[.int .u64 (d 0 : Int), .int .u64 (d 1 : Int), .int .u64 (d 2 : Int), .int .u64 (d 3 : Int)]] w fun e w' => e = .returned (.bool (dealOk d)) ∧ Below w.heap.size w w' := by
  have hb0 : ∀ o, Below w.heap.size w (w.alloc o) := fun o => (Below.refl _ _).alloc (Nat.le_refl _) o
  go_enter Tryd.func40, Tryd.ntmps40
  go_wp2_with fail
  go_loopw [3, 4, 10] (fun al nu c wr => ∃ k : Nat, k ≤ 4 ∧ c = .int .i64 (k : Int) ∧ al = .int .u64 (allTo d k : Int) ∧ nu = .int .i64 (numTo d k : Int) ∧ (∀ i, i < k → handOk d i = true) ∧ Below w.heap.size w wr) (fun _ _ c _ => 4 - (intOf c).toNat)
  case atStart => exact ⟨0, by omega, rfl, rfl, rfl, fun i hi => by omega, hb0 _⟩
  case round =>
    obtain ⟨k, hk, rfl, rfl, rfl, hall, hB⟩ := hrel
    by_cases hlt : k < 4
    · have hw := hd k hlt
      have hix := index_deal d k hlt
      have hwa := allTo_w64 hd k (by omega)
      rcases Nat.lt_or_ge (d k) 4503599627370496 with hs | hs
      rotate_left
      · have hno := Lib.hid (dealOk_no hlt (show handOk d k = false by simp [handOk, show ¬ d k < 4503599627370496 by omega]))
        go_wp2_with (go_at_call 59; refine (card_list_no _ hs _).mono ?_; rintro e w' ⟨rfl, rfl⟩)
        go_ret
        exact ⟨by rw [hno.out]; rfl, hB⟩
      have HCL := Lib.hid (card_list (d k) hw hs)
      have HOK := Lib.hid (show handOk d k = (decide (1 ≤ (downL (d k)).length) && decide ((downL (d k)).length ≤ 13) && decide (land (allTo d k) (d k) = 0) && (decide (k = 0) || decide ((downL (d k)).length = numTo d k))) by simp [handOk, hs])
      have HNE := Lib.hid (dealOk_no (d := d) hlt)
      have HNX := Lib.hid (show numTo d (k + 1) = (downL (d k)).length by simp [numTo])
      have hsz := hB.size
      generalize downL (d k) = L at *
      by_cases h1 : 1 ≤ L.length
      rotate_left
      · have hno := Lib.hid (HNE.out (by rw [HOK.out]; simp [h1]))
        have e0 : decide ((L.length : Int) < 1) = true := by rw [decide_eq_true_eq]; omega
        go_wp2_with (go_at_call 59; refine (HCL.out _).mono ?_; rintro e w' ⟨v, rfl, how, hb9⟩; obtain ⟨av, cv, rfl, hal⟩ := how.slice)
        go_ret
        exact ⟨by rw [hno.out]; rfl, hB.trans (hb9.mono hsz)⟩
      have e0 : decide ((L.length : Int) < 1) = false := by rw [decide_eq_false_iff_not]; omega
      by_cases h2 : L.length ≤ 13
      rotate_left
      · have hno := Lib.hid (HNE.out (by rw [HOK.out]; simp [h2]))
        have e1 : decide ((L.length : Int) > 13) = true := by rw [decide_eq_true_eq]; omega
        go_wp2_with (go_at_call 59; refine (HCL.out _).mono ?_; rintro e w' ⟨v, rfl, how, hb9⟩; obtain ⟨av, cv, rfl, hal⟩ := how.slice)
        go_ret
        exact ⟨by rw [hno.out]; rfl, hB.trans (hb9.mono hsz)⟩
      have e1 : decide ((L.length : Int) > 13) = false := by rw [decide_eq_false_iff_not]; omega
      by_cases h3 : land (allTo d k) (d k) = 0
      rotate_left
      · have hno := Lib.hid (HNE.out (by rw [HOK.out]; simp [h3]))
        have e2 : (((land (allTo d k) (d k) : Nat) : Int) != 0) = true := by rw [bne_iff_ne]; omega
        go_wp2_with (go_at_call 59; refine (HCL.out _).mono ?_; rintro e w' ⟨v, rfl, how, hb9⟩; obtain ⟨av, cv, rfl, hal⟩ := how.slice)
        go_ret
        exact ⟨by rw [hno.out]; rfl, hB.trans (hb9.mono hsz)⟩
      have e2 : (((land (allTo d k) (d k) : Nat) : Int) != 0) = false := by rw [h3]; rfl
      by_cases h4 : k = 0 ∨ L.length = numTo d k
      rotate_left
      · have hno := Lib.hid (HNE.out (by rw [HOK.out]; simp [show ¬ k = 0 from fun h => h4 (.inl h), show ¬ L.length = numTo d k from fun h => h4 (.inr h)]))
        have e3 : decide ((k : Int) > 0) = true := by rw [decide_eq_true_eq]; omega
        have e4 : ((L.length : Int) != (numTo d k : Int)) = true := by rw [bne_iff_ne]; omega
        go_wp2_with (go_at_call 59; refine (HCL.out _).mono ?_; rintro e w' ⟨v, rfl, how, hb9⟩; obtain ⟨av, cv, rfl, hal⟩ := how.slice)
        go_ret
        exact ⟨by rw [hno.out]; rfl, hB.trans (hb9.mono hsz)⟩
      have HY := Lib.hid (show handOk d k = true by rw [HOK.out]; simp [h1, h2, h3]; exact h4)
      have HA := Lib.hid (show allTo d (k + 1) = lor (allTo d k) (d k) from rfl)
      rcases (show k = 0 ∨ (0 < k ∧ L.length = numTo d k) by omega) with hk0 | ⟨hk0, hn⟩
      · have e3 : decide ((k : Int) > 0) = false := by rw [decide_eq_false_iff_not]; omega
        have HK := Lib.hid hk0
        have hk1 : ¬ 0 < k := by omega
        clear hk0 h4
        go_wp2_with (go_at_call 59; refine (HCL.out _).mono ?_; rintro e w' ⟨v, rfl, how, hb9⟩; obtain ⟨av, cv, rfl, hal⟩ := how.slice)
        go_roundw
        case rel => exact ⟨k + 1, by omega, by go_num, by rw [HA.out], by rw [HNX.out], fun i hi => by have := HK.out; rw [show i = k by omega]; exact HY.out, hB.trans (hb9.mono hsz)⟩
        case measure => simp [intOf]; omega
      · have e3 : decide ((k : Int) > 0) = true := by rw [decide_eq_true_eq]; omega
        have e4 : ((L.length : Int) != (numTo d k : Int)) = false := by rw [hn]; simp
        go_wp2_with (go_at_call 59; refine (HCL.out _).mono ?_; rintro e w' ⟨v, rfl, how, hb9⟩; obtain ⟨av, cv, rfl, hal⟩ := how.slice)
        go_roundw
        case rel =>
          refine ⟨k + 1, by omega, by go_num, by rw [HA.out], by rw [HNX.out, hn], fun i hi => ?_, hB.trans (hb9.mono hsz)⟩
          rcases (show i < k ∨ i = k by omega) with h | rfl
          · exact hall i h
          · exact HY.out
        case measure => simp [intOf]; omega
    · have HY := Lib.hid (dealOk_yes (fun i hi => hall i (by omega)))
      go_wp2_with fail
      go_ret
      exact ⟨by rw [HY.out]; rfl, hB⟩
end Go.Proofs.YtginbellakkliaaDoor
