/- Contracts of slices.Contains and finessekit.SameBytes over this seat's program. -/
import Derived.Test.YtginbellakkliaaDoorPyLs
namespace Go.Proofs.YtginbellakkliaaDoor
open Go.RowKit Go.Sort Go.Shelf

def IndexPost (c : Nat) (zs : List Nat) (w : World) (e : Ending) (w' : World) : Prop := ∃ i : Int, e = .returned (.int .i64 i) ∧ decide (0 ≤ i) = zs.contains c ∧ w = w'

theorem slices_index (a : Option Addr) (len cap c : Nat) (zs : List Nat) (w : World) (hz : Byt w a len zs) :
    Calls Tryd.prog 49 #[.slice a len cap, .int .u8 (c : Int)] w (IndexPost c zs w) := by
  have HL := Lib.hid hz.length
  have hsm := hz.small
  go_enter Tryd.func49, Tryd.ntmps49
  go_wp2
  go_loop [5, 8] (fun _ i => ∃ (k : Nat), k ≤ len ∧ i = .int .i64 k ∧ c ∉ zs.take k) (fun _ i => len - (intOf i).toNat)
  case atStart => exact ⟨0, Nat.zero_le _, rfl, by simp⟩
  case round =>
    obtain ⟨k, hk, rfl, hn⟩ := hrel
    have HN := Lib.hid hn
    clear hn
    by_cases hlt : k < len
    · obtain ⟨b, off, rfl, hb, hcs⟩ := hz.at (by omega)
      have hc := hcs k hlt
      have hd := drop_cons zs k (by rw [HL.out]; exact hlt)
      have ht : zs.take (k + 1) = zs.take k ++ [zs.getD k 0] := by
        rw [List.take_succ_eq_append_getElem (by rw [HL.out]; exact hlt), List.getD_eq_getElem?_getD, List.getElem?_eq_getElem (by rw [HL.out]; exact hlt)]; rfl
      clear hcs
      generalize zs.getD k 0 = x at *
      have HD := Lib.hid hd
      have HT := Lib.hid ht
      clear hd ht
      by_cases hx : c = x
      · have hx' : ((c : Int) == (x : Int)) = true := by simp; omega
        have HX := Lib.hid hx
        clear hx
        go_wp2
        go_ret
        refine ⟨k, rfl, ?_, rfl⟩
        have : c ∈ zs := by
          rw [← List.take_append_drop k zs, HD.out, HX.out]; simp
        rw [List.contains_iff_mem.2 this]; simp
      · have hx' : ((c : Int) == (x : Int)) = false := by simp; omega
        go_wp2
        go_round
        case rel => exact ⟨k + 1, by omega, by go_num, by rw [HT.out]; have := HN.out; simp [this, hx]⟩
        case measure => simp [intOf]; omega
    · go_wp2
      go_ret
      refine ⟨-1, rfl, ?_, rfl⟩
      have := HN.out
      rw [List.take_of_length_le (by rw [HL.out]; omega)] at this
      simp [this]

theorem slices_contains (a : Option Addr) (len cap c : Nat) (zs : List Nat) (w : World) (hz : Byt w a len zs) :
    Calls Tryd.prog 30 #[.slice a len cap, .int .u8 (c : Int)] w fun e w' => e = .returned (.bool (zs.contains c)) ∧ w = w' := by
  generalize hb : zs.contains c = b
  have HB := Lib.hid hb
  clear hb
  go_enter Tryd.func30, Tryd.ntmps30
  go_wp2_with (go_at_call 49; refine (slices_index _ _ _ c zs _ hz).mono ?_; rintro e w' ⟨i, rfl, hi, rfl⟩; have HI := Lib.hid hi; clear hi)
  go_ret
  exact ⟨by rw [← HB.out, ← HI.out]; simp, rfl⟩

/-- finessekit.SameBytes of the same bytes -/
theorem same_true (a a2 : Option Addr) (len c c2 : Nat) (zs : List Nat) (w : World) (h1 : Byt w a len zs) (h2 : Byt w a2 len zs) :
    Calls Tryd.prog 29 #[.slice a len c, .slice a2 len c2] w fun e w' => e = .returned (.bool true) ∧ Below w.heap.size w w' := by
  have hsm := h1.small
  go_enter Tryd.func29, Tryd.ntmps29
  go_wp2
  go_loopw [5] (fun i wr => ∃ k : Nat, k ≤ len ∧ i = .int .i64 (k : Int) ∧ Below w.heap.size w wr) (fun i _ => len - (intOf i).toNat)
  case atStart => exact ⟨0, by omega, rfl, Below.refl _ _⟩
  case round =>
    obtain ⟨k, hk, rfl, hB⟩ := hrel
    by_cases hlt : k < len
    · obtain ⟨b, off, rfl, hb, hcs⟩ := (h1.below (Nat.le_refl _) hB).at (by omega)
      obtain ⟨b2, off2, rfl, hb2, hcs2⟩ := (h2.below (Nat.le_refl _) hB).at (by omega)
      have hc := hcs k hlt
      have hc2 := hcs2 k hlt
      have hBd := hB.drew
      clear hcs hcs2
      generalize zs.getD k 0 = z at *
      go_wp2
      go_region
      go_wp2
      go_roundw
      case rel => exact ⟨k + 1, by omega, by go_num, hBd⟩
      case measure => simp [intOf]; omega
    · obtain rfl : k = len := by omega
      go_wp2
      go_ret
      exact ⟨rfl, hB⟩
end Go.Proofs.YtginbellakkliaaDoor
