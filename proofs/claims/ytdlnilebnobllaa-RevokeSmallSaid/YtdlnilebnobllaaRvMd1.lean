/- The closure of finesselaw13.Made over this seat's program: which card is played. -/
import Derived.Test.YtdlnilebnobllaaRvWin
import Derived.Test.YtdlnilebnobllaaRvLw1
import Derived.BigQuiet
import Derived.Maps.AppendAt
import Derived.RegionTactic
import Derived.BigRegion
namespace Go.Proofs.Ytdlnilebnobllaa
open Go.RowKit Go.Shelf Go.Sort

/-- a sketch -/
structure Sk where
  size : Nat
  trumps : Nat
  decl : Nat
  faults : Nat
  order : List Nat
  play : List Nat
/-- a sketch's cells, with its slices -/
abbrev Sk.cells (x : Sk) (ao : Option Addr) (lo co : Nat) (ap : Option Addr) (lp cp : Nat) : Array Value :=
  #[.int .u8 (x.size : Int), .int .u8 (x.trumps : Int), .int .u8 (x.decl : Int), .int .u8 (x.faults : Int), .slice ao lo co, .slice ap lp cp]
/-- the cards that follow suit -/
def legalTo (hand led : List Nat) (k : Nat) : List Nat := (hand.take k).filter fun c => led ≠ [] && c / 13 == led.getD 0 0 / 13
def Sk.number (x : Sk) (turn : Nat) : Nat := if x.play = [] then turn else x.play.getD (turn % x.play.length) 0
def Sk.free (x : Sk) (turn : Nat) (l : List Nat) : Bool := decide (l = []) || (decide (0 < x.faults % 8) && decide (x.number turn % (1 + x.faults % 8) = 0))
def Sk.pick (x : Sk) (turn : Nat) (hand led : List Nat) : List Nat := if x.free turn (legalTo hand led hand.length) then hand else legalTo hand led hand.length
/-- the card that is played -/
def Sk.choose (x : Sk) (turn : Nat) (hand led : List Nat) : Nat := (x.pick turn hand led).getD (x.number turn / 8 % (x.pick turn hand led).length) 0
theorem legalTo_succ (hand led : List Nat) (k : Nat) (h : k < hand.length) : legalTo hand led (k + 1) = if led ≠ [] ∧ hand.getD k 0 / 13 = led.getD 0 0 / 13 then legalTo hand led k ++ [hand.getD k 0] else legalTo hand led k := by
  unfold legalTo
  have e : hand.getD k 0 = hand[k] := by rw [List.getD_eq_getElem?_getD, List.getElem?_eq_getElem h]; rfl
  rw [List.take_succ_eq_append_getElem h, List.filter_append, e]
  simp only [List.filter_cons, List.filter_nil]
  by_cases h1 : led = []
  · simp [h1]
  · by_cases h2 : hand[k] / 13 = led.getD 0 0 / 13
    · simp [h1, h2]
    · have h3 : ¬ (led ≠ [] ∧ hand[k] / 13 = led.getD 0 0 / 13) := fun h => h2 h.2
      have h4 : (decide (led ≠ []) && hand[k] / 13 == led.getD 0 0 / 13) = false := by
        have : (hand[k] / 13 == led.getD 0 0 / 13) = false := by rw [beq_eq_false_iff_ne]; exact h2
        rw [this, Bool.and_false]
      simp only [h3, if_false, h4, Bool.false_eq_true, List.append_nil]
theorem legalTo_le (hand led : List Nat) (k : Nat) : (legalTo hand led k).length ≤ k := by
  unfold legalTo
  exact Nat.le_trans (List.length_filter_le _ _) (List.length_take_le _ _)
theorem Byt.grown {w w' : World} {a : Option Addr} {len g : Nat} {zs : List Nat} (h : Byt w a len zs) (hg : w.grownBy w' (some g)) (ha : 0 < len → ∀ ad, a = some ad → ad.block ≠ g) : Byt w' a len zs := by
  refine ⟨h.length, h.small, h.byte, ?_⟩
  rcases h.cells with h | ⟨b, off, rfl, hb, hc⟩
  · exact .inl h
  · refine .inr ⟨b, off, rfl, Nat.lt_of_lt_of_le hb hg.size, fun i hi => ?_⟩
    rw [← hc i hi]
    simp only [World.cell?, hg.block b hb (fun e => ha (by omega) _ rfl (by injection e))]
/-- what the closure finds: its turn, the sketch, and the sketch's cards -/
structure ChIn (W : World) (x : Sk) (Bt Bx : Nat) (ao : Option Addr) (lo co : Nat) (ap : Option Addr) (lp cp : Nat) (turn : Nat) : Prop where
  turn : Row W Bt 3 #[.int .i64 (turn : Int)]
  sk : Row W Bx 36 (x.cells ao lo co ap lp cp)
  play : Byt W ap lp x.play
  apart : 0 < lp → ∀ ad, ap = some ad → ad.block ≠ Bt

set_option maxHeartbeats 1000000 in
set_option maxRecDepth 100000 in
theorem made1 (x : Sk) (Bt Bx : Nat) (ao : Option Addr) (lo co : Nat) (ap : Option Addr) (lp cp turn lh ll : Nat) (hand led : List Nat) (ah al : Option Addr) (ch cl : Nat) (w : World)
    (hin : ChIn w x Bt Bx ao lo co ap lp cp turn) (ht : turn ≤ 60) (hh : Byt w ah lh hand) (hl : Byt w al ll led) (hhb : ∀ ad, ah = some ad → ad.block ≠ Bt) (hlb : ∀ ad, al = some ad → ad.block ≠ Bt) (hh0 : 0 < lh) (hh60 : lh ≤ 64) :
    Calls Try.prog 34 #[.slice ah lh ch, .slice al ll cl, .pointer (some ⟨Bt, 0, none⟩), .pointer (some ⟨Bx, 0, none⟩)] w fun e w' =>
      e = .returned (.int .u8 (x.choose turn hand led : Int)) ∧ w.grownBy w' (some Bt) ∧ Row w' Bt 3 #[.int .i64 ((turn + 1 : Nat) : Int)] := by
  obtain ⟨i0, hi, hz0, hz1, hz2⟩ := info_parts info_u8'
  obtain ⟨hT, hS, hP, hA⟩ := hin
  have c0 := hT.cell 0
  have f0 := hT.frozen 0
  have s3 := hS.cell 3
  have s5 := hS.cell 5
  simp at c0 s3 s5
  have hBl := hT.lt
  have hpl := hP.small
  have hlh := hh.length
  have hll := hl.length
  rcases (show lp = 0 ∨ 0 < lp by omega) with hp0 | hpp
  case inl =>
    have hnum := Lib.hid (show x.number turn = turn by unfold Sk.number; rw [if_pos (List.eq_nil_of_length_eq_zero (hP.length.trans hp0))])
    subst hp0
    go_enter Try.func34, Try.ntmps34
    go_wp2
    have hg2 : w.grownBy (w.setCell ⟨Bt, 0, none⟩ (.int .i64 ((turn : Int) + 1))) (some Bt) := grownBy_set (World.grownBy.refl w _) (.inl rfl) _
    have hT2 := hT.set 0 (.int .i64 ((turn : Int) + 1))
    have hnv : turn < 256 := by omega
    generalize (w.setCell ⟨Bt, 0, none⟩ (.int .i64 ((turn : Int) + 1))) = w2 at *
    have hS2 := hS.same (hg2.block Bx hS.lt (fun e => row_ne hS hT (by decide) (by injection e)))
    have hh2 := hh.grown hg2 (fun _ => hhb)
    have hl2 := hl.grown hg2 (fun _ => hlb)
    clear hS hh hl hP c0 f0 s3 s5
    have s3 := hS2.cell 3
    simp at s3
    go_loopw [8, 30] (fun lv i wr => ∃ k : Nat, k ≤ lh ∧ i = .int .i64 (k : Int) ∧ OwnU wr w2.heap.size lv (legalTo hand led k) ∧ Below w2.heap.size w2 wr) (fun _ i _ => lh - (intOf i).toNat)
    case atStart => exact ⟨0, by omega, rfl, Owns.nil encU_len _ _, Below.refl _ _⟩
    case round =>
      obtain ⟨k, hk, rfl, how, hB⟩ := hrel
      obtain ⟨av, cv, rfl, hal⟩ := how.slice
      have hwl := legalTo_le hand led k
      by_cases hlt : k < lh
      · obtain ⟨b1, off1, rfl, hb1, hcs1⟩ := hh2.at (by omega)
        have hck := (hB.cell (p := ⟨b1, off1 + k, none⟩) hb1).trans (hcs1 k hlt)
        have hby1 := hh2.byte k
        have HST := Lib.hid (legalTo_succ hand led k (by omega))
        clear hcs1
        have hsz := hB.size
        generalize hgk : hand.getD k 0 = ck at *
        have HGK := Lib.hid hgk
        clear hgk
        by_cases hl0 : ll = 0
        · have HN := Lib.hid (show legalTo hand led (k + 1) = legalTo hand led k by rw [HST.out, if_neg (fun h => h.1 (List.eq_nil_of_length_eq_zero (by omega)))])
          clear hll
          subst hl0
          go_wp2
          go_roundw
          case rel => exact ⟨k + 1, by omega, by go_num, by rw [HN.out]; exact how, hB⟩
          case measure => simp [intOf]; omega
        · obtain ⟨b2, off2, rfl, hb2, hcs2⟩ := hl2.at (by omega)
          have hc0 := (hB.cell (p := ⟨b2, off2 + 0, none⟩) hb2).trans (hcs2 0 (by omega))
          rw [Nat.add_zero] at hc0
          have hlp : 0 < ll := by omega
          have hne : led ≠ [] := by intro e; rw [e] at hll; simp at hll; omega
          have hby2 := hl2.byte 0
          clear hcs2
          generalize led.getD 0 0 = c0 at *
          by_cases hq : ck / 13 = c0 / 13
          · have hq' : ((ck : Int) / 13 == (c0 : Int) / 13) = true := by rw [beq_iff_eq]; omega
            have HN := Lib.hid (show legalTo hand led (k + 1) = legalTo hand led k ++ [ck] by rw [HST.out, if_pos ⟨hne, hq⟩])
            clear hq hne
            go_wp2_with (at_builtin; (refine wpList_append_own_at _ rfl _ _ 25 rfl w2.heap.size 5 i0 (.int .u8 0) 1 1 Try.underlying25 hi hz0 hz1 hz2 rfl (by decide) _ _ _ rfl (how.2.alloc _) ⟨wr.heap.size, 0, none⟩ 1 1 [.int .u8 (ck : Int)] rfl rfl (cell_one_new _ _ _) (by simp [Value.oneCell']) (by unfold maxLen; omega) (by omega) (by simp; omega) ?_); intro v' w3 hown' hgrow _ hloc)
            go_roundw
            case rel =>
              refine ⟨k + 1, by omega, by go_num, ⟨encU_len, ?_⟩, (hB.alloc hsz _).grown hgrow (by simp; omega) (fun g e => (how.row e).1)⟩
              rw [HN.out]
              simpa using hown'
            case measure => simp [intOf]; omega
          · have hq' : ((ck : Int) / 13 == (c0 : Int) / 13) = false := by rw [beq_eq_false_iff_ne]; omega
            have HN := Lib.hid (show legalTo hand led (k + 1) = legalTo hand led k by rw [HST.out, if_neg (fun h => hq h.2)])
            clear hq hne
            go_wp2
            go_roundw
            case rel => exact ⟨k + 1, by omega, by go_num, by rw [HN.out]; exact how, hB⟩
            case measure => simp [intOf]; omega
      · have hke : k = lh := by omega
        subst hke
        have HNM := hnum
        clear hnum
        have hlg := Lib.hid (show legalTo hand led hand.length = legalTo hand led k by rw [hlh])
        generalize legalTo hand led k = l at *
        have hg3 := grownBy_then hg2 hB
        have hT3 := hT2.below hT2.lt hB
        have s3' := ((hS2.below hS2.lt hB).cell 3)
        simp at s3'
        have ewf : IntKind.u8.wrap (1 + (x.faults : Int) % 8) = 1 + (x.faults : Int) % 8 := by rw [IntKind.wrap_u8]; omega
        clear hg2 hT2 s3
        by_cases hn : l = []
        · have hpk := Lib.hid (show x.pick turn hand led = hand by unfold Sk.pick Sk.free; rw [hlg.out, if_pos (by simp [hn])])
          subst hn
          obtain ⟨b1, off1, rfl, hb1, hcs1⟩ := hh2.at hh0
          have hmk : turn / 8 % k < k := Nat.mod_lt _ hh0
          have hme : ((turn / 8 % k : Nat) : Int) = (turn : Int) / 8 % (k : Int) := by push_cast; rfl
          have hix0 : (0 : Int) ≤ (turn : Int) / 8 % (k : Int) := by rw [← hme]; omega
          have hix : (turn : Int) / 8 % (k : Int) < (k : Int) := by rw [← hme]; omega
          have hixn : ((turn : Int) / 8 % (k : Int)).toNat = turn / 8 % k := by rw [← hme]; rfl
          have hck := (hB.cell (p := ⟨b1, off1 + turn / 8 % k, none⟩) hb1).trans (hcs1 _ hmk)
          clear hcs1
          have hch := Lib.hid (show x.choose turn hand led = hand.getD (turn / 8 % k) 0 by unfold Sk.choose; rw [hpk.out, HNM.out, hlh])
          generalize hand.getD (turn / 8 % k) 0 = cv at *
          go_wp2
          refine bodyPost_ret (v := .int .u8 (cv : Int)) (by simp [results, Try.results34, go_sem]) rfl ⟨by rw [hch.out], hg3, hT3⟩
        have hn0 : 0 < l.length := List.length_pos_iff.2 hn
        by_cases hf : x.faults % 8 = 0
        · have hpk := Lib.hid (show x.pick turn hand led = l by unfold Sk.pick Sk.free; rw [hlg.out, if_neg (by simp [hn, hf])])
          have hf' : (x.faults : Int) % 8 = 0 := by omega
          obtain ⟨g, rfl⟩ := hal hn
          have hml : turn / 8 % l.length < l.length := Nat.mod_lt _ hn0
          have hme : ((turn / 8 % l.length : Nat) : Int) = (turn : Int) / 8 % (l.length : Int) := by push_cast; rfl
          have hix0 : (0 : Int) ≤ (turn : Int) / 8 % (l.length : Int) := by rw [← hme]; omega
          have hix : (turn : Int) / 8 % (l.length : Int) < (l.length : Int) := by rw [← hme]; omega
          have hixn : ((turn : Int) / 8 % (l.length : Int)).toNat = turn / 8 % l.length := by rw [← hme]; rfl
          have hck := how.cell (turn / 8 % l.length) 0 (by omega) (List.getElem?_eq_getElem hml)
          have hch := Lib.hid (show x.choose turn hand led = l[turn / 8 % l.length] by unfold Sk.choose; rw [hpk.out, HNM.out, List.getD_eq_getElem?_getD, List.getElem?_eq_getElem hml]; rfl)
          simp at hck
          generalize l[turn / 8 % l.length] = cv at *
          go_wp2
          refine bodyPost_ret (v := .int .u8 (cv : Int)) (by simp [results, Try.results34, go_sem]) rfl ⟨by rw [hch.out], hg3, hT3⟩
        have hf' : 0 < (x.faults : Int) % 8 := by omega
        by_cases hq : turn % (1 + x.faults % 8) = 0
        · have hpk := Lib.hid (show x.pick turn hand led = hand by unfold Sk.pick Sk.free; rw [hlg.out, if_pos (by rw [HNM.out]; simp [hq]; omega)])
          have hq' : (turn : Int) % (1 + (x.faults : Int) % 8) = 0 := by exact_mod_cast hq
          obtain ⟨b1, off1, rfl, hb1, hcs1⟩ := hh2.at hh0
          have hmk : turn / 8 % k < k := Nat.mod_lt _ hh0
          have hme : ((turn / 8 % k : Nat) : Int) = (turn : Int) / 8 % (k : Int) := by push_cast; rfl
          have hix0 : (0 : Int) ≤ (turn : Int) / 8 % (k : Int) := by rw [← hme]; omega
          have hix : (turn : Int) / 8 % (k : Int) < (k : Int) := by rw [← hme]; omega
          have hixn : ((turn : Int) / 8 % (k : Int)).toNat = turn / 8 % k := by rw [← hme]; rfl
          have hck := (hB.cell (p := ⟨b1, off1 + turn / 8 % k, none⟩) hb1).trans (hcs1 _ hmk)
          clear hcs1
          have hch := Lib.hid (show x.choose turn hand led = hand.getD (turn / 8 % k) 0 by unfold Sk.choose; rw [hpk.out, HNM.out, hlh])
          generalize hand.getD (turn / 8 % k) 0 = cv at *
          go_wp2
          refine bodyPost_ret (v := .int .u8 (cv : Int)) (by simp [results, Try.results34, go_sem]) rfl ⟨by rw [hch.out], hg3, hT3⟩
        · have hpk := Lib.hid (show x.pick turn hand led = l by unfold Sk.pick Sk.free; rw [hlg.out, if_neg (by rw [HNM.out]; simp [hq, hn])])
          have hq' : ((turn : Int) % (1 + (x.faults : Int) % 8) == 0) = false := by rw [beq_eq_false_iff_ne]; intro h; apply hq; exact_mod_cast h
          obtain ⟨g, rfl⟩ := hal hn
          have hml : turn / 8 % l.length < l.length := Nat.mod_lt _ hn0
          have hme : ((turn / 8 % l.length : Nat) : Int) = (turn : Int) / 8 % (l.length : Int) := by push_cast; rfl
          have hix0 : (0 : Int) ≤ (turn : Int) / 8 % (l.length : Int) := by rw [← hme]; omega
          have hix : (turn : Int) / 8 % (l.length : Int) < (l.length : Int) := by rw [← hme]; omega
          have hixn : ((turn : Int) / 8 % (l.length : Int)).toNat = turn / 8 % l.length := by rw [← hme]; rfl
          have hck := how.cell (turn / 8 % l.length) 0 (by omega) (List.getElem?_eq_getElem hml)
          have hch := Lib.hid (show x.choose turn hand led = l[turn / 8 % l.length] by unfold Sk.choose; rw [hpk.out, HNM.out, List.getD_eq_getElem?_getD, List.getElem?_eq_getElem hml]; rfl)
          simp at hck
          generalize l[turn / 8 % l.length] = cv at *
          go_wp2
          refine bodyPost_ret (v := .int .u8 (cv : Int)) (by simp [results, Try.results34, go_sem]) rfl ⟨by rw [hch.out], hg3, hT3⟩
  case inr =>
    have hnum := Lib.hid (show x.number turn = x.play.getD (turn % lp) 0 by unfold Sk.number; rw [hP.length, if_neg (fun h => by rw [← hP.length, h] at hpp; simp at hpp)])
    obtain ⟨b, off, rfl, hb, hcs⟩ := hP.at hpp
    have hmod : turn % lp < lp := Nat.mod_lt _ hpp
    have hc := hcs _ hmod
    clear hcs
    have hnv := hP.byte (turn % lp)
    have hneb : b ≠ Bt := hA hpp _ rfl
    generalize x.play.getD (turn % lp) 0 = nv at *
    go_enter Try.func34, Try.ntmps34
    go_wp2
    go_region
    go_wp2
    have hg2 : w.grownBy (w.setCell ⟨Bt, 0, none⟩ (.int .i64 ((turn : Int) + 1))).drew (some Bt) := grownBy_drew (grownBy_set (World.grownBy.refl w _) (.inl rfl) _)
    have hT2 : Row (w.setCell ⟨Bt, 0, none⟩ (.int .i64 ((turn : Int) + 1))).drew Bt _ _ := hT.set 0 (.int .i64 ((turn : Int) + 1))
    generalize (w.setCell ⟨Bt, 0, none⟩ (.int .i64 ((turn : Int) + 1))).drew = w2 at *
    clear hc
    have hS2 := hS.same (hg2.block Bx hS.lt (fun e => row_ne hS hT (by decide) (by injection e)))
    have hh2 := hh.grown hg2 (fun _ => hhb)
    have hl2 := hl.grown hg2 (fun _ => hlb)
    clear hS hh hl hP c0 f0 s3 s5
    have s3 := hS2.cell 3
    simp at s3
    go_loopw [8, 30] (fun lv i wr => ∃ k : Nat, k ≤ lh ∧ i = .int .i64 (k : Int) ∧ OwnU wr w2.heap.size lv (legalTo hand led k) ∧ Below w2.heap.size w2 wr) (fun _ i _ => lh - (intOf i).toNat)
    case atStart => exact ⟨0, by omega, rfl, Owns.nil encU_len _ _, Below.refl _ _⟩
    case round =>
      obtain ⟨k, hk, rfl, how, hB⟩ := hrel
      obtain ⟨av, cv, rfl, hal⟩ := how.slice
      have hwl := legalTo_le hand led k
      by_cases hlt : k < lh
      · obtain ⟨b1, off1, rfl, hb1, hcs1⟩ := hh2.at (by omega)
        have hck := (hB.cell (p := ⟨b1, off1 + k, none⟩) hb1).trans (hcs1 k hlt)
        have hby1 := hh2.byte k
        have HST := Lib.hid (legalTo_succ hand led k (by omega))
        clear hcs1
        have hsz := hB.size
        generalize hgk : hand.getD k 0 = ck at *
        have HGK := Lib.hid hgk
        clear hgk
        by_cases hl0 : ll = 0
        · have HN := Lib.hid (show legalTo hand led (k + 1) = legalTo hand led k by rw [HST.out, if_neg (fun h => h.1 (List.eq_nil_of_length_eq_zero (by omega)))])
          clear hll
          subst hl0
          go_wp2
          go_roundw
          case rel => exact ⟨k + 1, by omega, by go_num, by rw [HN.out]; exact how, hB⟩
          case measure => simp [intOf]; omega
        · obtain ⟨b2, off2, rfl, hb2, hcs2⟩ := hl2.at (by omega)
          have hc0 := (hB.cell (p := ⟨b2, off2 + 0, none⟩) hb2).trans (hcs2 0 (by omega))
          rw [Nat.add_zero] at hc0
          have hlp : 0 < ll := by omega
          have hne : led ≠ [] := by intro e; rw [e] at hll; simp at hll; omega
          have hby2 := hl2.byte 0
          clear hcs2
          generalize led.getD 0 0 = c0 at *
          by_cases hq : ck / 13 = c0 / 13
          · have hq' : ((ck : Int) / 13 == (c0 : Int) / 13) = true := by rw [beq_iff_eq]; omega
            have HN := Lib.hid (show legalTo hand led (k + 1) = legalTo hand led k ++ [ck] by rw [HST.out, if_pos ⟨hne, hq⟩])
            clear hq hne
            go_wp2_with (at_builtin; (refine wpList_append_own_at _ rfl _ _ 25 rfl w2.heap.size 5 i0 (.int .u8 0) 1 1 Try.underlying25 hi hz0 hz1 hz2 rfl (by decide) _ _ _ rfl (how.2.alloc _) ⟨wr.heap.size, 0, none⟩ 1 1 [.int .u8 (ck : Int)] rfl rfl (cell_one_new _ _ _) (by simp [Value.oneCell']) (by unfold maxLen; omega) (by omega) (by simp; omega) ?_); intro v' w3 hown' hgrow _ hloc)
            go_roundw
            case rel =>
              refine ⟨k + 1, by omega, by go_num, ⟨encU_len, ?_⟩, (hB.alloc hsz _).grown hgrow (by simp; omega) (fun g e => (how.row e).1)⟩
              rw [HN.out]
              simpa using hown'
            case measure => simp [intOf]; omega
          · have hq' : ((ck : Int) / 13 == (c0 : Int) / 13) = false := by rw [beq_eq_false_iff_ne]; omega
            have HN := Lib.hid (show legalTo hand led (k + 1) = legalTo hand led k by rw [HST.out, if_neg (fun h => hq h.2)])
            clear hq hne
            go_wp2
            go_roundw
            case rel => exact ⟨k + 1, by omega, by go_num, by rw [HN.out]; exact how, hB⟩
            case measure => simp [intOf]; omega
      · have hke : k = lh := by omega
        subst hke
        have HNM := hnum
        clear hnum
        have hlg := Lib.hid (show legalTo hand led hand.length = legalTo hand led k by rw [hlh])
        generalize legalTo hand led k = l at *
        have hg3 := grownBy_then hg2 hB
        have hT3 := hT2.below hT2.lt hB
        have s3' := ((hS2.below hS2.lt hB).cell 3)
        simp at s3'
        have ewf : IntKind.u8.wrap (1 + (x.faults : Int) % 8) = 1 + (x.faults : Int) % 8 := by rw [IntKind.wrap_u8]; omega
        clear hg2 hT2 s3
        by_cases hn : l = []
        · have hpk := Lib.hid (show x.pick turn hand led = hand by unfold Sk.pick Sk.free; rw [hlg.out, if_pos (by simp [hn])])
          subst hn
          obtain ⟨b1, off1, rfl, hb1, hcs1⟩ := hh2.at hh0
          have hmk : nv / 8 % k < k := Nat.mod_lt _ hh0
          have hme : ((nv / 8 % k : Nat) : Int) = (nv : Int) / 8 % (k : Int) := by push_cast; rfl
          have hix0 : (0 : Int) ≤ (nv : Int) / 8 % (k : Int) := by rw [← hme]; omega
          have hix : (nv : Int) / 8 % (k : Int) < (k : Int) := by rw [← hme]; omega
          have hixn : ((nv : Int) / 8 % (k : Int)).toNat = nv / 8 % k := by rw [← hme]; rfl
          have hck := (hB.cell (p := ⟨b1, off1 + nv / 8 % k, none⟩) hb1).trans (hcs1 _ hmk)
          clear hcs1
          have hch := Lib.hid (show x.choose turn hand led = hand.getD (nv / 8 % k) 0 by unfold Sk.choose; rw [hpk.out, HNM.out, hlh])
          generalize hand.getD (nv / 8 % k) 0 = cv at *
          go_wp2
          refine bodyPost_ret (v := .int .u8 (cv : Int)) (by simp [results, Try.results34, go_sem]) rfl ⟨by rw [hch.out], hg3, hT3⟩
        have hn0 : 0 < l.length := List.length_pos_iff.2 hn
        by_cases hf : x.faults % 8 = 0
        · have hpk := Lib.hid (show x.pick turn hand led = l by unfold Sk.pick Sk.free; rw [hlg.out, if_neg (by simp [hn, hf])])
          have hf' : (x.faults : Int) % 8 = 0 := by omega
          obtain ⟨g, rfl⟩ := hal hn
          have hml : nv / 8 % l.length < l.length := Nat.mod_lt _ hn0
          have hme : ((nv / 8 % l.length : Nat) : Int) = (nv : Int) / 8 % (l.length : Int) := by push_cast; rfl
          have hix0 : (0 : Int) ≤ (nv : Int) / 8 % (l.length : Int) := by rw [← hme]; omega
          have hix : (nv : Int) / 8 % (l.length : Int) < (l.length : Int) := by rw [← hme]; omega
          have hixn : ((nv : Int) / 8 % (l.length : Int)).toNat = nv / 8 % l.length := by rw [← hme]; rfl
          have hck := how.cell (nv / 8 % l.length) 0 (by omega) (List.getElem?_eq_getElem hml)
          have hch := Lib.hid (show x.choose turn hand led = l[nv / 8 % l.length] by unfold Sk.choose; rw [hpk.out, HNM.out, List.getD_eq_getElem?_getD, List.getElem?_eq_getElem hml]; rfl)
          simp at hck
          generalize l[nv / 8 % l.length] = cv at *
          go_wp2
          refine bodyPost_ret (v := .int .u8 (cv : Int)) (by simp [results, Try.results34, go_sem]) rfl ⟨by rw [hch.out], hg3, hT3⟩
        have hf' : 0 < (x.faults : Int) % 8 := by omega
        by_cases hq : nv % (1 + x.faults % 8) = 0
        · have hpk := Lib.hid (show x.pick turn hand led = hand by unfold Sk.pick Sk.free; rw [hlg.out, if_pos (by rw [HNM.out]; simp [hq]; omega)])
          have hq' : (nv : Int) % (1 + (x.faults : Int) % 8) = 0 := by exact_mod_cast hq
          obtain ⟨b1, off1, rfl, hb1, hcs1⟩ := hh2.at hh0
          have hmk : nv / 8 % k < k := Nat.mod_lt _ hh0
          have hme : ((nv / 8 % k : Nat) : Int) = (nv : Int) / 8 % (k : Int) := by push_cast; rfl
          have hix0 : (0 : Int) ≤ (nv : Int) / 8 % (k : Int) := by rw [← hme]; omega
          have hix : (nv : Int) / 8 % (k : Int) < (k : Int) := by rw [← hme]; omega
          have hixn : ((nv : Int) / 8 % (k : Int)).toNat = nv / 8 % k := by rw [← hme]; rfl
          have hck := (hB.cell (p := ⟨b1, off1 + nv / 8 % k, none⟩) hb1).trans (hcs1 _ hmk)
          clear hcs1
          have hch := Lib.hid (show x.choose turn hand led = hand.getD (nv / 8 % k) 0 by unfold Sk.choose; rw [hpk.out, HNM.out, hlh])
          generalize hand.getD (nv / 8 % k) 0 = cv at *
          go_wp2
          refine bodyPost_ret (v := .int .u8 (cv : Int)) (by simp [results, Try.results34, go_sem]) rfl ⟨by rw [hch.out], hg3, hT3⟩
        · have hpk := Lib.hid (show x.pick turn hand led = l by unfold Sk.pick Sk.free; rw [hlg.out, if_neg (by rw [HNM.out]; simp [hq, hn])])
          have hq' : ((nv : Int) % (1 + (x.faults : Int) % 8) == 0) = false := by rw [beq_eq_false_iff_ne]; intro h; apply hq; exact_mod_cast h
          obtain ⟨g, rfl⟩ := hal hn
          have hml : nv / 8 % l.length < l.length := Nat.mod_lt _ hn0
          have hme : ((nv / 8 % l.length : Nat) : Int) = (nv : Int) / 8 % (l.length : Int) := by push_cast; rfl
          have hix0 : (0 : Int) ≤ (nv : Int) / 8 % (l.length : Int) := by rw [← hme]; omega
          have hix : (nv : Int) / 8 % (l.length : Int) < (l.length : Int) := by rw [← hme]; omega
          have hixn : ((nv : Int) / 8 % (l.length : Int)).toNat = nv / 8 % l.length := by rw [← hme]; rfl
          have hck := how.cell (nv / 8 % l.length) 0 (by omega) (List.getElem?_eq_getElem hml)
          have hch := Lib.hid (show x.choose turn hand led = l[nv / 8 % l.length] by unfold Sk.choose; rw [hpk.out, HNM.out, List.getD_eq_getElem?_getD, List.getElem?_eq_getElem hml]; rfl)
          simp at hck
          generalize l[nv / 8 % l.length] = cv at *
          go_wp2
          refine bodyPost_ret (v := .int .u8 (cv : Int)) (by simp [results, Try.results34, go_sem]) rfl ⟨by rw [hch.out], hg3, hT3⟩
end Go.Proofs.Ytdlnilebnobllaa
