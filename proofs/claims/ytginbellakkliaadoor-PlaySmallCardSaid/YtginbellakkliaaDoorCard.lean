/- Contracts of package card over this seat's program: Right, Suit, Rank, Mask. -/
import Derived.Test.YtginbellakkliaaDoorProg
import Derived.Test.YtginbellakkliaaDoorMLow
namespace Go.Proofs.YtginbellakkliaaDoor
open Go.RowKit

/-- A slice of bytes that reads as the list zs in the world w. -/
structure Byt (w : World) (a : Option Addr) (len : Nat) (zs : List Nat) : Prop where
  length : zs.length = len
  small : len ≤ 140737488351232
  byte : ∀ i, zs.getD i 0 < 256
  cells : len = 0 ∨ ∃ b off, a = some ⟨b, off, none⟩ ∧ b < w.heap.size ∧ ∀ i, i < len → w.cell? ⟨b, off + i, none⟩ = some (.int .u8 ((zs.getD i 0 : Nat) : Int))

theorem Byt.at {w : World} {a : Option Addr} {len : Nat} {zs : List Nat} (h : Byt w a len zs) (hp : 0 < len) :
    ∃ b off, a = some ⟨b, off, none⟩ ∧ b < w.heap.size ∧ ∀ i, i < len → w.cell? ⟨b, off + i, none⟩ = some (.int .u8 ((zs.getD i 0 : Nat) : Int)) := by
  rcases h.cells with h | h
  · omega
  · exact h
theorem Byt.below {w w' : World} {a : Option Addr} {len : Nat} {zs : List Nat} (h : Byt w a len zs) {B : Nat} (hB : w.heap.size ≤ B) (hb : Below B w w') : Byt w' a len zs := by
  refine ⟨h.length, h.small, h.byte, ?_⟩
  rcases h.cells with h | ⟨b, off, ha, hlt, hc⟩
  · exact .inl h
  · exact .inr ⟨b, off, ha, Nat.lt_of_lt_of_le hlt hb.size, fun i hi => (hb.cell (p := ⟨b, off + i, none⟩) (Nat.lt_of_lt_of_le hlt hB)).trans (hc i hi)⟩

/-- card.Suit -/
def suit (c : Nat) : Nat := if c < 52 then c / 13 else 0
/-- card.Rank -/
def rank (c : Nat) : Nat := if c < 52 then c % 13 else 0
/-- card.Mask -/
def maskR (m : Nat) : List Nat → Nat × Nat
  | [] => (m, 0)
  | c :: cs => if c < 52 then (if m.testBit c then (0, 42) else maskR (lor m (shl1 c)) cs) else (0, 41)

theorem card_right (c : Nat) (w : World) : Calls Tryd.prog 46 #[.int .u8 (c : Int)] w fun e w' => e = .returned (.bool (decide (c < 52))) ∧ w = w' := by
  go_enter Tryd.func46, Tryd.ntmps46
  go_wp2
  all_goals go_ret
  all_goals exact ⟨by simp; omega, rfl⟩

theorem card_suit (c : Nat) (w : World) : Calls Tryd.prog 63 #[.int .u8 (c : Int)] w fun e w' => e = .returned (.int .u8 ((suit c : Nat) : Int)) ∧ w = w' := by
  by_cases h : c < 52
  · have e : ((suit c : Nat) : Int) = (c : Int) / 13 := by unfold suit; rw [if_pos h]; omega
    rw [e]
    go_enter Tryd.func63, Tryd.ntmps63
    go_wp2_with (go_at_call 46; refine (card_right _ _).mono ?_; rintro e w' ⟨rfl, rfl⟩)
    go_ret
    exact ⟨rfl, rfl⟩
  · have e : ((suit c : Nat) : Int) = 0 := by unfold suit; rw [if_neg h]; rfl
    rw [e]
    go_enter Tryd.func63, Tryd.ntmps63
    go_wp2_with (go_at_call 46; refine (card_right _ _).mono ?_; rintro e w' ⟨rfl, rfl⟩)
    go_ret
    exact ⟨rfl, rfl⟩

theorem card_rank (c : Nat) (w : World) : Calls Tryd.prog 84 #[.int .u8 (c : Int)] w fun e w' => e = .returned (.int .u8 ((rank c : Nat) : Int)) ∧ w = w' := by
  by_cases h : c < 52
  · have e : ((rank c : Nat) : Int) = (c : Int) % 13 := by unfold rank; rw [if_pos h]; omega
    rw [e]
    go_enter Tryd.func84, Tryd.ntmps84
    go_wp2_with (go_at_call 46; refine (card_right _ _).mono ?_; rintro e w' ⟨rfl, rfl⟩)
    go_ret
    exact ⟨rfl, rfl⟩
  · have e : ((rank c : Nat) : Int) = 0 := by unfold rank; rw [if_neg h]; rfl
    rw [e]
    go_enter Tryd.func84, Tryd.ntmps84
    go_wp2_with (go_at_call 46; refine (card_right _ _).mono ?_; rintro e w' ⟨rfl, rfl⟩)
    go_ret
    exact ⟨rfl, rfl⟩

theorem drop_cons (zs : List Nat) (k : Nat) (h : k < zs.length) : zs.drop k = zs.getD k 0 :: zs.drop (k + 1) := by
  rw [List.drop_eq_getElem_cons h, List.getD_eq_getElem?_getD, List.getElem?_eq_getElem h]; rfl

theorem card_mask (a : Option Addr) (len cap : Nat) (zs : List Nat) (w : World) (hz : Byt w a len zs) :
  Calls Tryd.prog 61 #[.slice a len cap] w fun e w' => e = .returned (.tuple #[.int .u64 ((maskR 0 zs).1 : Int), .int .i64 ((maskR 0 zs).2 : Int)]) ∧ w = w' := by
  have hlen := hz.length
  have hsm := hz.small
  have HL := Lib.hid hlen
  clear hlen
  go_enter Tryd.func61, Tryd.ntmps61
  go_wp2
  go_loop [4, 6, 9] (fun m _ i => ∃ (k : Nat) (mm : Nat), k ≤ len ∧ i = .int .i64 k ∧ m = .int .u64 mm ∧ W64 mm ∧ maskR mm (zs.drop k) = maskR 0 zs) (fun _ _ i => len - (intOf i).toNat)
  case atStart => exact ⟨0, 0, Nat.zero_le _, rfl, rfl, W64.zero, rfl⟩
  case round =>
    obtain ⟨k, mm, hk, rfl, rfl, hw, hm⟩ := hrel
    have HM := Lib.hid hm
    clear hm
    by_cases hlt : k < len
    · obtain ⟨b, off, rfl, hb, hcs⟩ := hz.at (by omega)
      have hc := hcs k hlt
      have hby := hz.byte k
      have hd := drop_cons zs k (by rw [HL.out]; exact hlt)
      clear hcs
      generalize zs.getD k 0 = c at *
      have HD := Lib.hid hd
      clear hd
      by_cases h52 : c < 52
      · cases hbit : mm.testBit c
        · go_wp2_with (go_at_call 46; refine (card_right _ _).mono ?_; rintro e w' ⟨rfl, rfl⟩)
          go_round
          case rel =>
            refine ⟨k + 1, lor mm (shl1 c), by omega, by go_num, rfl, hw.lor (W64.shl1 c), ?_⟩
            rw [← HM.out, HD.out, maskR, if_pos h52, hbit]; rfl
          case measure => simp [intOf]; omega
        · go_wp2_with (go_at_call 46; refine (card_right _ _).mono ?_; rintro e w' ⟨rfl, rfl⟩)
          have e : maskR 0 zs = (0, 42) := by rw [← HM.out, HD.out, maskR, if_pos h52, hbit]; rfl
          rw [e]
          go_ret2
          exact ⟨rfl, rfl⟩
      · go_wp2_with (go_at_call 46; refine (card_right _ _).mono ?_; rintro e w' ⟨rfl, rfl⟩)
        have e : maskR 0 zs = (0, 41) := by rw [← HM.out, HD.out, maskR, if_neg h52]
        rw [e]
        go_ret2
        exact ⟨rfl, rfl⟩
    · go_wp2
      have e : maskR 0 zs = (mm, 0) := by rw [← HM.out, List.drop_of_length_le (by rw [HL.out]; omega)]; rfl
      rw [e]
      go_ret2
      exact ⟨rfl, rfl⟩
end Go.Proofs.YtginbellakkliaaDoor
