/- Contract of trick.Cover over this seat's program. -/
import Derived.Test.YthilcnhnfdddhaaDoorWinners
import Derived.Test.YthilcnhnfdddhaaDoorCollect
import Derived.Laws.EntriesVeiled
namespace Go.Proofs.YthilcnhnfdddhaaDoor
open Go.RowKit Go.Shelf Go.Sort

theorem cover1 (x : Nat) (w1 : World) (h : x < 256) :
    Calls Tryd.prog 46 (#[.int .u8 (x : Int)] ++ #[]) w1 fun e w' => e = .returned (.int .i64 (-(x : Int))) ∧ Below w1.heap.size w1 w' := by
  simp only [Array.append_empty]
  go_enter Tryd.func46, Tryd.ntmps46
  go_wp2
  go_ret
  exact ⟨rfl, Below.refl _ _⟩

theorem cover2 (t l p q r : Nat) (W : World) (hr : W.cell? ⟨r, 0, none⟩ = some (.func (.func 55) #[] #[.pointer (some ⟨p, 0, none⟩), .pointer (some ⟨q, 0, none⟩)])) (hp : W.cell? ⟨p, 0, none⟩ = some (.int .u8 (t : Int))) (hq : W.cell? ⟨q, 0, none⟩ = some (.int .u8 (l : Int))) (x : Nat) (w1 : World) (hx : x < 256) (hb : Below W.heap.size W w1) :
    Calls Tryd.prog 47 (#[.int .u8 (x : Int)] ++ #[.pointer (some ⟨r, 0, none⟩)]) w1 fun e w' => e = .returned (.int .i64 (-(strength t l x : Int))) ∧ Below w1.heap.size w1 w' := by
  have hr1 := (hb.cell (p := ⟨r, 0, none⟩) (block_lt_of_cell hr)).trans hr
  have hst := strength_lt t l x
  have hs := str_val' t l p q W hp hq x w1 hx hb
  have HS := Lib.hid hs
  clear hs hr hp hq
  generalize strength t l x = y at *
  show Calls Tryd.prog 47 #[.int .u8 (x : Int), .pointer (some ⟨r, 0, none⟩)] w1 _
  go_enter Tryd.func47, Tryd.ntmps47
  go_wp2_with (go_at_call 55; refine HS.out.mono ?_; rintro e w' ⟨rfl, hb'⟩)
  go_ret
  exact ⟨by simp, hb'⟩

/-- how weak a card is -/
def weak (t : Nat) (zs : List Nat) (c : Nat) : Int := if zs.length = 0 then -(c : Int) else -(strength t (suit (zs.getD 0 0)) c : Int)
/-- trick.Cover -/
def coverV (t hand : Nat) (zs : List Nat) : Nat × Bool :=
  if (winnersV t hand zs).2 = 0 ∧ (winnersV t hand zs).1 ≠ 0 then
    ((vals (bitsList (winnersV t hand zs).1)).getD (bestTo (weak t zs) (vals (bitsList (winnersV t hand zs).1)) (vals (bitsList (winnersV t hand zs).1)).length) 0, true)
  else (0, false)

theorem winnersV_w64 (t hand : Nat) (zs : List Nat) (h : W64 hand) : W64 (winnersV t hand zs).1 := by
  unfold winnersV
  split
  · exact W64.zero
  · split
    · split
      · exact playableV_w64 hand zs h
      · exact winFold_w64 _ _ _
    · exact W64.zero
theorem vals_byte (l : List (Fin 64)) (i : Nat) : (vals l).getD i 0 < 256 := by
  unfold vals
  rw [List.getD_eq_getElem?_getD, List.getElem?_map]
  cases l[i]? with
  | none => simp
  | some x => simp; omega
theorem vals_length (m : Nat) : (vals (bitsList m)).length ≤ 64 := by simpa [vals] using bitsList_length m
theorem vals_pos (m : Nat) (h : W64 m) (h0 : m ≠ 0) : 0 < (vals (bitsList m)).length := by
  obtain ⟨_, h⟩ := bitsList_cons m h0 h
  rw [h]; simp [vals]

theorem trick_Cover (t hand : Nat) (a : Option Addr) (len cap : Nat) (zs : List Nat) (w : World) (hz : Byt w a len zs) (hh : W64 hand) (hT : Tab w) :
    Calls Tryd.prog 21 #[.int .u8 (t : Int), .int .u64 (hand : Int), .slice a len cap] w fun e w' => e = .returned (.tuple #[.int .u8 ((coverV t hand zs).1 : Int), .bool (coverV t hand zs).2]) ∧ Below w.heap.size w w' := by
  unfold coverV
  have hW := trick_Winners t hand a len cap zs w hz hh hT
  have hx := winnersV_w64 t hand zs hh
  generalize winnersV t hand zs = x at *
  obtain ⟨x, y⟩ := x
  dsimp only at *
  have HW := Lib.hid hW
  clear hW
  by_cases h1 : y = 0
  · subst h1
    by_cases h2 : x = 0
    · subst h2
      rw [if_neg (by simp)]
      go_enter Tryd.func21, Tryd.ntmps21
      go_wp2_with (go_at_call 20; refine HW.out.mono ?_; rintro e w1 ⟨rfl, hb1⟩)
      go_ret2
      exact ⟨rfl, hb1⟩
    rw [if_pos ⟨rfl, h2⟩]
    have h2' : ((x : Int) == 0) = false := by simp; omega
    have hpos := vals_pos x hx h2
    have hl64 := vals_length x
    have hby := vals_byte (bitsList x)
    generalize hcan : vals (bitsList x) = can at *
    have HC := Lib.hid hcan
    clear hcan
    have hbt : bestTo (weak t zs) can can.length < can.length := bestTo_lt _ _ _ hpos
    by_cases h3 : len = 0
    · subst h3
      have hwk : weak t zs = fun c : Nat => -(c : Int) := by
        funext c; unfold weak; rw [if_pos hz.length]
      rw [hwk] at hbt ⊢
      generalize hat : bestTo (fun c : Nat => -(c : Int)) can can.length = at' at *
      have HAT := Lib.hid hat
      clear hat hwk
      go_enter Tryd.func21, Tryd.ntmps21
      go_wp2_with (first | (go_at_call 20; refine HW.out.mono ?_; rintro e w1 ⟨rfl, hb1⟩) | (go_at_call 40; refine (trick_cards _ _).mono ?_; rintro e w' ⟨rfl, rfl⟩))
      have hB2 : Below w1.heap.size w1 (w1.alloc (.cells #[.int .u64 (x : Int)] 22)) := (Below.refl _ _).alloc (Nat.le_refl _) _
      refine (slices_collect w1.heap.size x _ hx (by simp [go_sem]) (hT.below hT.pos (hb1.trans (hB2.mono hb1.size)))).mono ?_
      rw [HC.out]
      rintro e w2 ⟨v, rfl, hv, hb2⟩
      obtain ⟨a', cap', rfl, hzc⟩ := byt_of_owns hv (by omega) hby
      obtain ⟨b', off', rfl, hb', hcs⟩ := hzc.at hpos
      have hB3 := hb1.trans ((hB2.trans (hb2.mono hB2.size)).mono hb1.size)
      go_wp2_with (go_at_call 36; refine (trick_best _ _ _ _ #[] can (fun c : Nat => -(c : Int)) _ hzc (fun x w1 hx _ => cover1 x w1 hx) (enters_of Tryd.func46 (by kernel_rfl) rfl)).mono ?_; rw [HAT.out]; rintro e w3 ⟨rfl, hb3⟩; have hc3 : w3.cell? ⟨b', off' + at', none⟩ = some (.int .u8 ((can.getD at' 0 : Nat) : Int)) := (hb3.cell (p := ⟨b', off' + at', none⟩) hb').trans (hcs _ hbt))
      go_ret2
      exact ⟨by simp [List.getElem?_eq_getElem hbt], hB3.trans (hb3.mono hB3.size)⟩
    · have hp : 0 < len := by omega
      have hpI : (0 : Int) < (len : Int) := by omega
      obtain ⟨b, off, rfl, hb, hcs⟩ := hz.at hp
      have hc0 := hcs 0 hp
      clear hcs
      rw [Nat.add_zero] at hc0
      have hwk : weak t zs = fun c : Nat => -(strength t (suit (zs.getD 0 0)) c : Int) := by
        funext c; unfold weak; rw [if_neg (by rw [hz.length]; omega)]
      rw [hwk] at hbt ⊢
      generalize zs.getD 0 0 = c0 at *
      generalize hat : bestTo (fun c : Nat => -(strength t (suit c0) c : Int)) can can.length = at' at *
      have HAT := Lib.hid hat
      clear hat hwk
      go_enter Tryd.func21, Tryd.ntmps21
      go_wp2_with (go_at_call 20; refine HW.out.mono ?_; rintro e w1 ⟨rfl, hb1⟩; have hc01 : w1.cell? ⟨b, off, none⟩ = some (.int .u8 (c0 : Int)) := (hb1.cell (p := ⟨b, off, none⟩) hb).trans hc0)
      go_wp2_with (first | (go_at_call 38; refine (card_suit _ _).mono ?_; rintro e w' ⟨rfl, rfl⟩) | (go_at_call 37; refine (trick_strengths _ _ _).mono ?_; rintro e w' ⟨rfl, rfl⟩) | (go_at_call 40; refine (trick_cards _ _).mono ?_; rintro e w' ⟨rfl, rfl⟩))
      obtain ⟨o1, ho1⟩ : ∃ o, Obj.cells #[Value.int IntKind.u8 (t : Int)] 5 = o := ⟨_, rfl⟩
      obtain ⟨o2, ho2⟩ : ∃ o, Obj.cells #[Value.int IntKind.u8 (suit c0 : Int)] 5 = o := ⟨_, rfl⟩
      obtain ⟨o3, ho3⟩ : ∃ o, Obj.cells #[Value.func (Fn.func 55) #[] #[.pointer (some ⟨w1.heap.size, 0, none⟩), .pointer (some ⟨w1.heap.size + 1, 0, none⟩)]] 62 = o := ⟨_, rfl⟩
      obtain ⟨o4, ho4⟩ : ∃ o, Obj.cells #[Value.int IntKind.u64 (x : Int)] 22 = o := ⟨_, rfl⟩
      have hB2 : Below w1.heap.size w1 ((((w1.alloc o1).alloc o2).alloc o3).alloc o4) := ((((Below.refl _ _).alloc (Nat.le_refl _) _).alloc (by simp) _).alloc (by simp; omega) _).alloc (by simp; omega) _
      have hp1 : ((((w1.alloc o1).alloc o2).alloc o3).alloc o4).cell? ⟨w1.heap.size, 0, none⟩ = some (.int .u8 (t : Int)) := by rw [← ho1]; simp [go_sem, World.cell?_alloc_past]
      have hp2 : ((((w1.alloc o1).alloc o2).alloc o3).alloc o4).cell? ⟨w1.heap.size + 1, 0, none⟩ = some (.int .u8 (suit c0 : Int)) := by rw [← ho2]; simp [go_sem, World.cell?_alloc_past]
      have hp3 : ((((w1.alloc o1).alloc o2).alloc o3).alloc o4).cell? ⟨w1.heap.size + 1 + 1, 0, none⟩ = some (.func (.func 55) #[] #[.pointer (some ⟨w1.heap.size, 0, none⟩), .pointer (some ⟨w1.heap.size + 1, 0, none⟩)]) := by rw [← ho3]; simp [go_sem, World.cell?_alloc_past]
      have hp4 : ((((w1.alloc o1).alloc o2).alloc o3).alloc o4).cell? ⟨w1.heap.size + 1 + 1 + 1, 0, none⟩ = some (.int .u64 (x : Int)) := by rw [← ho4]; simp [go_sem]
      rw [ho1, ho2, ho3, ho4]
      generalize (((w1.alloc o1).alloc o2).alloc o3).alloc o4 = W at *
      refine (slices_collect (w1.heap.size + 1 + 1 + 1) x W hx hp4 (hT.below hT.pos (hb1.trans (hB2.mono hb1.size)))).mono ?_
      rw [HC.out]
      rintro e w2 ⟨v, rfl, hv, hb2⟩
      obtain ⟨a', cap', rfl, hzc⟩ := byt_of_owns hv (by omega) hby
      obtain ⟨b', off', rfl, hb', hcs⟩ := hzc.at hpos
      have hB3 := hb1.trans ((hB2.trans (hb2.mono hB2.size)).mono hb1.size)
      have hv2 := cover2 t (suit c0) w1.heap.size (w1.heap.size + 1) (w1.heap.size + 1 + 1) w2 ((hb2.cell (block_lt_of_cell hp3)).trans hp3) ((hb2.cell (block_lt_of_cell hp1)).trans hp1) ((hb2.cell (block_lt_of_cell hp2)).trans hp2)
      have HV2 := Lib.hid hv2
      clear hv2 hp1 hp2 hp3 hp4 hc01 hc0
      go_wp2_with (go_at_call 36; refine (trick_best _ _ _ _ #[.pointer (some ⟨w1.heap.size + 1 + 1, 0, none⟩)] can (fun c : Nat => -(strength t (suit c0) c : Int)) _ hzc (fun x w1 hx hb => HV2.out x w1 hx hb) (enters_of Tryd.func47 (by kernel_rfl) rfl)).mono ?_; rw [HAT.out]; rintro e w3 ⟨rfl, hb3⟩; have hc3 : w3.cell? ⟨b', off' + at', none⟩ = some (.int .u8 ((can.getD at' 0 : Nat) : Int)) := (hb3.cell (p := ⟨b', off' + at', none⟩) hb').trans (hcs _ hbt))
      go_ret2
      exact ⟨by simp [List.getElem?_eq_getElem hbt], hB3.trans (hb3.mono hB3.size)⟩
  · rw [if_neg (fun h => h1 h.1)]
    have h1' : ((y : Int) != 0) = true := by rw [bne_iff_ne]; omega
    go_enter Tryd.func21, Tryd.ntmps21
    go_wp2_with (go_at_call 20; refine HW.out.mono ?_; rintro e w1 ⟨rfl, hb1⟩)
    go_ret2
    exact ⟨rfl, hb1⟩
end Go.Proofs.YthilcnhnfdddhaaDoor
