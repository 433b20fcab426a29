/- Contracts of slices.Index, slices.Contains and trick.Beats over this seat's program. -/
import Derived.Test.YthilcnhnfdddhaaDoorTrickB
namespace Go.Proofs.YthilcnhnfdddhaaDoor
open Go.RowKit Go.Sort Go.Shelf

def IndexPost (c : Nat) (zs : List Nat) (w : World) (e : Ending) (w' : World) : Prop := ∃ i : Int, e = .returned (.int .i64 i) ∧ decide (0 ≤ i) = zs.contains c ∧ w = w'

theorem slices_index (a : Option Addr) (len cap c : Nat) (zs : List Nat) (w : World) (hz : Byt w a len zs) :
    Calls Tryd.prog 54 #[.slice a len cap, .int .u8 (c : Int)] w (IndexPost c zs w) := by
  have HL := Lib.hid hz.length
  have hsm := hz.small
  go_enter Tryd.func54, Tryd.ntmps54
  go_wp2
  go_loop [5, 8] (fun _ i => ∃ (k : Nat), k ≤ len ∧ i = .int .i64 k ∧ c ∉ zs.take k) (fun _ i => len - (intOf i).toNat)
  case atStart => exact ⟨0, Nat.zero_le _, rfl, by simp⟩
  case round =>
    obtain ⟨k, hk, rfl, hn⟩ := hrel
    have HN := Lib.hid hn
    clear hn
    by_cases hlt : k < len
    · obtain ⟨b, off, rfl, hb, hcs⟩ := hz.at (by omega)
      have hc := hcs k hlt
      have hd := drop_cons zs k (by rw [HL.out]; exact hlt)
      have ht : zs.take (k + 1) = zs.take k ++ [zs.getD k 0] := by
        rw [List.take_succ_eq_append_getElem (by rw [HL.out]; exact hlt), List.getD_eq_getElem?_getD, List.getElem?_eq_getElem (by rw [HL.out]; exact hlt)]; rfl
      clear hcs
      generalize zs.getD k 0 = x at *
      have HD := Lib.hid hd
      have HT := Lib.hid ht
      clear hd ht
      by_cases hx : c = x
      · have hx' : ((c : Int) == (x : Int)) = true := by simp; omega
        have HX := Lib.hid hx
        clear hx
        go_wp2
        go_ret
        refine ⟨k, rfl, ?_, rfl⟩
        have : c ∈ zs := by
          rw [← List.take_append_drop k zs, HD.out, HX.out]; simp
        rw [List.contains_iff_mem.2 this]; simp
      · have hx' : ((c : Int) == (x : Int)) = false := by simp; omega
        go_wp2
        go_round
        case rel => exact ⟨k + 1, by omega, by go_num, by rw [HT.out]; have := HN.out; simp [this, hx]⟩
        case measure => simp [intOf]; omega
    · go_wp2
      go_ret
      refine ⟨-1, rfl, ?_, rfl⟩
      have := HN.out
      rw [List.take_of_length_le (by rw [HL.out]; omega)] at this
      simp [this]

theorem slices_contains (a : Option Addr) (len cap c : Nat) (zs : List Nat) (w : World) (hz : Byt w a len zs) :
    Calls Tryd.prog 35 #[.slice a len cap, .int .u8 (c : Int)] w fun e w' => e = .returned (.bool (zs.contains c)) ∧ w = w' := by
  generalize hb : zs.contains c = b
  have HB := Lib.hid hb
  clear hb
  go_enter Tryd.func35, Tryd.ntmps35
  go_wp2_with (go_at_call 54; refine (slices_index _ _ _ c zs _ hz).mono ?_; rintro e w' ⟨i, rfl, hi, rfl⟩; have HI := Lib.hid hi; clear hi)
  go_ret
  exact ⟨by rw [← HB.out, ← HI.out]; simp, rfl⟩

theorem str_val' (t l p q : Nat) (W : World) (hp : W.cell? ⟨p, 0, none⟩ = some (.int .u8 (t : Int))) (hq : W.cell? ⟨q, 0, none⟩ = some (.int .u8 (l : Int))) (x : Nat) (w1 : World) (hx : x < 256) (hb : Below W.heap.size W w1) :
    Calls Tryd.prog 55 #[.int .u8 (x : Int), .pointer (some ⟨p, 0, none⟩), .pointer (some ⟨q, 0, none⟩)] w1 fun e w' => e = .returned (.int .i64 ((strength t l x : Nat) : Int)) ∧ Below w1.heap.size w1 w' :=
  str_val t l p q W hp hq x w1 hx hb

/-- trick.Beats -/
def beatsV (t : Nat) (zs : List Nat) (c : Nat) : Bool × Nat :=
  if (winnerV t zs).2 = 0 then
    (if zs.length = 4 then (false, 111) else if c < 52 ∧ zs.contains c = false then
      (decide (strength t (suit (zs.getD 0 0)) (zs.getD (winnerV t zs).1 0) < strength t (suit (zs.getD 0 0)) c), 0) else (false, 110))
  else (false, (winnerV t zs).2)

theorem trick_Beats (t c : Nat) (a : Option Addr) (len cap : Nat) (zs : List Nat) (w : World) (hz : Byt w a len zs) (hc : c < 256) :
    Calls Tryd.prog 27 #[.int .u8 (t : Int), .slice a len cap, .int .u8 (c : Int)] w fun e w' => e = .returned (.tuple #[.bool (beatsV t zs c).1, .int .i64 ((beatsV t zs c).2 : Int)]) ∧ Below w.heap.size w w' := by
  unfold beatsV
  have hw := trick_Winner t a len cap zs w hz
  have hlt : (winnerV t zs).2 = 0 → (winnerV t zs).1 < len := by
    intro h
    obtain ⟨h1, h2, h3⟩ := winnerV_ok h
    have h4 := rightB_length h2
    rw [h3, ← hz.length]
    exact bestTo_lt _ zs _ (by omega)
  have hpos : (winnerV t zs).2 = 0 → 0 < len := fun h => by have := hlt h; omega
  generalize winnerV t zs = x at *
  obtain ⟨x, y⟩ := x
  dsimp only at *
  rw [hz.length]
  have HW := Lib.hid hw
  clear hw
  by_cases h2 : y = 0
  · subst h2
    have hx := hlt rfl
    have hp := hpos rfl
    clear hlt hpos
    rw [if_pos rfl]
    by_cases h4 : len = 4
    · subst h4
      rw [if_pos rfl]
      go_enter Tryd.func27, Tryd.ntmps27
      go_wp2_with (go_at_call 16; refine HW.out.mono ?_; rintro e w' ⟨rfl, hb'⟩)
      go_ret2
      exact ⟨rfl, hb'⟩
    rw [if_neg h4]
    have h4' : ((len : Int) == 4) = false := by simp; omega
    by_cases h5 : c < 52
    · cases h6 : zs.contains c
      · rw [if_pos ⟨h5, rfl⟩]
        obtain ⟨b, off, rfl, hb, hcs⟩ := hz.at hp
        have hc0 := hcs 0 hp
        have hcx := hcs x hx
        clear hcs
        rw [Nat.add_zero] at hc0
        have hby := hz.byte x
        generalize zs.getD 0 0 = c0 at *
        generalize zs.getD x 0 = cx at *
        have hposI : (0 : Int) < (len : Int) := by omega
        go_enter Tryd.func27, Tryd.ntmps27
        go_wp2_with (go_at_call 16; refine HW.out.mono ?_; rintro e w1 ⟨rfl, hb1⟩; have hc01 : w1.cell? ⟨b, off, none⟩ = some (.int .u8 (c0 : Int)) := (hb1.cell (p := ⟨b, off, none⟩) hb).trans hc0)
        go_wp2_with (first | (go_at_call 50; refine (card_right _ _).mono ?_; rintro e w' ⟨rfl, rfl⟩) | (go_at_call 35; refine (slices_contains _ _ _ c zs _ (hz.below (Nat.le_refl _) hb1)).mono ?_; rw [h6]; rintro e w' ⟨rfl, rfl⟩) | (go_at_call 38; refine (card_suit _ _).mono ?_; rintro e w' ⟨rfl, rfl⟩) | (go_at_call 37; refine (trick_strengths _ _ _).mono ?_; rintro e w' ⟨rfl, rfl⟩))
        have hB2 : Below w1.heap.size w1 ((w1.alloc (.cells #[.int .u8 (t : Int)] 5)).alloc (.cells #[.int .u8 (suit c0 : Int)] 5)) := ((Below.refl _ _).alloc (Nat.le_refl _) _).alloc (by simp) _
        have hsv := str_val' t (suit c0) w1.heap.size (w1.heap.size + 1) ((w1.alloc (.cells #[.int .u8 (t : Int)] 5)).alloc (.cells #[.int .u8 (suit c0 : Int)] 5)) (by simp [go_sem]) (by simp [go_sem])
        have hcx2 : ((w1.alloc (.cells #[.int .u8 (t : Int)] 5)).alloc (.cells #[.int .u8 (suit c0 : Int)] 5)).cell? ⟨b, off + x, none⟩ = some (.int .u8 (cx : Int)) := (hB2.cell (p := ⟨b, off + x, none⟩) (Nat.lt_of_lt_of_le hb hb1.size)).trans ((hb1.cell (p := ⟨b, off + x, none⟩) hb).trans hcx)
        have hB3 := hb1.trans (hB2.mono hb1.size)
        have HSV := Lib.hid hsv
        clear hsv hc01 hc0 hcx
        generalize (w1.alloc (.cells #[.int .u8 (t : Int)] 5)).alloc (.cells #[.int .u8 (suit c0 : Int)] 5) = w2 at *
        have hr2 := fun dd os => cell_regrown hcx2 dd os
        refine wp_region_quiet_below (by kernel_rfl) (by kernel_rfl) ?_
        repeat (quiet_step (((with_reducible refine Calls.regrown_of (HSV.out _ _ ?_ (below_regrown _ _ _))); assumption)))
        refine wpQuiet_nil ?_
        rintro _ ⟨p, rfl⟩
        have hb3 := below_regrown w2 p.d p.os
        generalize grow (redrawn w2 p.d) p.os = w3 at *
        go_wp2
        go_ret2
        exact ⟨by simp, hB3.trans (hb3.mono hB3.size)⟩
      · rw [if_neg (by simp)]
        go_enter Tryd.func27, Tryd.ntmps27
        go_wp2_with (first | (go_at_call 16; refine HW.out.mono ?_; rintro e w1 ⟨rfl, hb1⟩) | (go_at_call 50; refine (card_right _ _).mono ?_; rintro e w' ⟨rfl, rfl⟩) | (go_at_call 35; refine (slices_contains _ _ _ c zs _ (hz.below (Nat.le_refl _) ‹_›)).mono ?_; rw [h6]; rintro e w' ⟨rfl, rfl⟩))
        go_ret2
        exact ⟨rfl, ‹_›⟩
    · rw [if_neg (fun h => h5 h.1)]
      go_enter Tryd.func27, Tryd.ntmps27
      go_wp2_with (first | (go_at_call 16; refine HW.out.mono ?_; rintro e w1 ⟨rfl, hb1⟩) | (go_at_call 50; refine (card_right _ _).mono ?_; rintro e w' ⟨rfl, rfl⟩))
      go_ret2
      exact ⟨rfl, ‹_›⟩
  · rw [if_neg h2]
    clear hlt hpos
    have h2' : ((y : Int) != 0) = true := by rw [bne_iff_ne]; omega
    go_enter Tryd.func27, Tryd.ntmps27
    go_wp2_with (go_at_call 16; refine HW.out.mono ?_; rintro e w' ⟨rfl, hb'⟩)
    go_ret2
    exact ⟨rfl, hb'⟩
end Go.Proofs.YthilcnhnfdddhaaDoor
