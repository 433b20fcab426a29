/- The reference of chapter 13 over this seat's program: Find. -/
import Derived.Test.YtdlnilebnobllaaRfH
import Derived.Test.YtdlnilebnobllaaRfG
import Derived.Deep.AppendLies
namespace Go.Proofs.Ytdlnilebnobllaa
open Go.RowKit Go.Shelf Go.Sort

/-- the revokes among the first i cards, as they are at the end -/
def flatI (r : Rc) (i : Nat) : List Rvk := ((List.range i).filter (revAt r.h r.t r.ld0 r.zs)).map (rvAt r.t r.ld0 r.zs r.zs.length)
theorem flatI_succ (r : Rc) (i : Nat) : flatI r (i + 1) = if revAt r.h r.t r.ld0 r.zs i then flatI r i ++ [rvAt r.t r.ld0 r.zs r.zs.length i] else flatI r i := by
  unfold flatI
  rw [List.range_succ, List.filter_append, List.map_append]
  cases hb : revAt r.h r.t r.ld0 r.zs i <;> simp [hb]
theorem flatI_le (r : Rc) (i : Nat) : (flatI r i).length ≤ i := by
  unfold flatI
  rw [List.length_map]
  exact Nat.le_trans (List.length_filter_le _ _) (by simp)
theorem find_full {r : Rc} (hd : r.dealt = true) (hE : r.rightV = (-1, 0)) : findAll r.rnds = flatI r r.zs.length := by
  rw [find_flat hd, (full_stop hd hE).1]; rfl
/-- whether a card could have followed, the first c looked at -/
def couldTo (r : Rc) (i c : Nat) : Bool := (List.range c).any fun c => (r.h (seatAt r.t r.ld0 r.zs i)).testBit c && decide (c ∉ r.zs.take i) && decide (c / 13 = ledAt r.zs i)
theorem couldTo_succ (r : Rc) (i c : Nat) : couldTo r i (c + 1) = (couldTo r i c || ((r.h (seatAt r.t r.ld0 r.zs i)).testBit c && decide (c ∉ r.zs.take i) && decide (c / 13 = ledAt r.zs i))) := by
  unfold couldTo
  rw [List.range_succ, List.any_append]
  simp
theorem rev_could (r : Rc) (i : Nat) : revAt r.h r.t r.ld0 r.zs i = (decide (r.zs.getD i 0 / 13 ≠ ledAt r.zs i) && couldTo r i 52) := rfl
/-- whether a card is left, the first k played looked at -/
def leftTo (r : Rc) (i c k : Nat) : Bool := (r.h (seatAt r.t r.ld0 r.zs i)).testBit c && decide (c ∉ r.zs.take k)
theorem leftTo_zero (r : Rc) (i c : Nat) : leftTo r i c 0 = (r.h (seatAt r.t r.ld0 r.zs i)).testBit c := by simp [leftTo]
theorem leftTo_succ (r : Rc) (i c : Nat) {k : Nat} (h : k < r.zs.length) : leftTo r i c (k + 1) = (leftTo r i c k && decide (r.zs.getD k 0 ≠ c)) := by
  unfold leftTo
  rw [List.take_succ_eq_append_getElem h, List.getD_eq_getElem?_getD, List.getElem?_eq_getElem h, Bool.and_assoc]
  congr 1
  rw [Bool.eq_iff_iff, Bool.and_eq_true, decide_eq_true_eq, decide_eq_true_eq, decide_eq_true_eq, List.mem_append, List.mem_singleton, not_or]
  simp only [Option.getD_some]
  exact ⟨fun ⟨a, b⟩ => ⟨a, fun h => b h.symm⟩, fun ⟨a, b⟩ => ⟨a, fun h => b h.symm⟩⟩
theorem est_seats {a b : Nat} (ha : a < 4) (hb : b < 4) : (a % 2 = b % 2) ↔ (a = b ∨ a = (b + 2) % 4) := by omega
theorem info_rrv : (Try.prog.info? 69).map (fun i => (i.zero, i.size, i.bytes)) = some (some (.agg #[.int .i64 0, .int .u8 0, .int .u8 0, .int .u8 0, .bool false]), 5, 16) := by kernel_rfl
theorem rf_find_no (r : Rc) (a : Option Addr) (len cap : Nat) (w : World) (hok : r.ok len cap) (hz : Byt w a len r.zs) (h60 : len ≤ 60000) (hE : r.rightV.2 ≠ 0) :
    Calls Try.prog 27 #[r.v a len cap] w fun e w' => e = .returned (.tuple #[.slice none 0 0, .int .i64 (r.rightV.2 : Int)]) ∧ Below w.heap.size w w' := by
  have hB0 := (Below.refl w.heap.size w).alloc (Nat.le_refl _) (.cells (r.cells a len cap) 57)
  have HRR := Lib.hid (rf_right r a len cap _ hok (hz.below (Nat.le_refl _) hB0) h60)
  generalize r.rightV.1 = i at *
  generalize r.rightV.2 = x at *
  have hxB : ((x : Int) != 0) = true := by rw [bne_iff_ne]; omega
  clear hE
  go_enter Try.func27, Try.ntmps27
  go_wp2_with (go_at_call 25; refine HRR.out.mono ?_; rintro e w1 ⟨rfl, hb1⟩)
  go_ret2
  exact ⟨rfl, hB0.trans (hb1.mono (by simp))⟩
set_option maxHeartbeats 4000000 in
set_option maxRecDepth 100000 in
theorem rf_find (r : Rc) (a : Option Addr) (len cap : Nat) (w : World) (hok : r.ok len cap) (hz : Byt w a len r.zs) (h60 : len ≤ 60000) (hd : r.dealt = true) (hE : r.rightV = (-1, 0)) :
    Calls Try.prog 27 #[r.v a len cap] w fun e w' => ∃ v, e = .returned (.tuple #[v, .int .i64 0]) ∧ OwnR w' w.heap.size v (findAll r.rnds) ∧ Below w.heap.size w w' := by
  obtain ⟨i0, hi0, hz0, hz1, hz2⟩ := info_parts info_rrv
  obtain ⟨hg, hst⟩ := full_stop hd hE
  have HLEN := Lib.hid hz.length
  have HFF := Lib.hid (find_full hd hE)
  have hB0 := (Below.refl w.heap.size w).alloc (Nat.le_refl _) (.cells (r.cells a len cap) 57)
  have hrr := rf_right r a len cap _ hok (hz.below (Nat.le_refl _) hB0) h60
  rw [hE] at hrr
  have HRR := Lib.hid hrr
  have HS := Lib.hid (fun (w1 : World) (hb : Below w.heap.size w w1) => rf_seats r a len cap w1 hok (hz.below (Nat.le_refl _) hb) hd h60)
  rw [hst, hg, HLEN.out] at HS
  have hR0 := Row.new w 57 (r.cells a len cap)
  have HW := Lib.hid hok.h
  clear hrr hE hd hg hst hok
  go_enter Try.func27, Try.ntmps27
  go_wp2_with fail
  refine HRR.out.mono ?_
  rintro e w1 ⟨rfl, hb1⟩
  have hR1 := hR0.below (by simp) hb1
  have hB1 := hB0.trans (hb1.mono (by simp))
  have c0 := hR1.cell 0
  have c1 := hR1.cell 1
  have c2 := hR1.cell 2
  have c3 := hR1.cell 3
  have c4 := hR1.cell 4
  have c5 := hR1.cell 5
  have c6 := hR1.cell 6
  simp only [List.getElem?_toArray, List.getElem?_cons_zero, List.getElem?_cons_succ] at c0 c1 c2 c3 c4 c5 c6
  clear hb1
  go_wp2_with fail
  refine (HS.out w1 hB1).mono ?_
  rintro e w2 ⟨vs, rfl, hoS, hb2⟩
  have hR2 := hR1.below hR1.lt hb2
  have hB2 := hB1.trans (hb2.mono hB1.size)
  clear c0 c1 c2 c3 c4 c5 c6 hb2 HRR HS
  obtain ⟨al, cl, hv, hnes⟩ := Owns.slice hoS
  rw [seatsTo_length] at hv
  subst hv
  have HNS := Lib.hid hnes
  have hb0 := Below.refl w2.heap.size w2
  have hs2 := hB2.size
  clear hnes
  go_wp2_with fail
  go_loopg [8, 9] len (fun gk out i wr => ∃ n : Nat, gk = len - n ∧ n ≤ len ∧ i = .int .i64 (n : Int) ∧ OwnR wr w2.heap.size out (flatI r n) ∧ Below w2.heap.size w2 wr)
  case atStart => exact ⟨0, by omega, by omega, rfl, Owns.nil rvk_len _ _, hb0⟩
  case round =>
    obtain ⟨n, rfl, hn, rfl, hown, hb⟩ := hrel
    have hB := hB2.trans (hb.mono hs2)
    have hR := hR2.below hR2.lt hb
    have hoSb := Owns.below hoS hb
    by_cases hlt : n < len
    · have hltB : decide (n < len) = true := by rw [decide_eq_true_eq]; exact hlt
      obtain ⟨ao, co, hvo, -⟩ := Owns.slice hown
      obtain ⟨lo, hlo⟩ : ∃ lo, lo = (flatI r n).length := ⟨_, rfl⟩
      rw [← hlo] at hvo
      subst hvo
      have HLO := Lib.hid hlo
      clear hlo
      obtain ⟨gs, hgs⟩ := HNS.out (by intro e; have := congrArg List.length e; rw [seatsTo_length] at this; simp at this; omega)
      subst hgs
      have hzb := hz.below (Nat.le_refl _) hB
      obtain ⟨b, off, hadd, hbb, hcs⟩ := hzb.at (by omega)
      obtain ⟨n4, hn4⟩ : ∃ n4, n4 = n - n % 4 := ⟨_, rfl⟩
      have hn4I : (n : Int) - (n : Int) % 4 = (n4 : Int) := by omega
      have hn4l : n4 < len := by omega
      have hc4 := hcs n4 hn4l
      have by4 := hzb.byte n4
      obtain ⟨led, hled⟩ : ∃ led, led = ledAt r.zs n := ⟨_, rfl⟩
      have hledI : ((r.zs.getD n4 0 : Nat) : Int) / 13 = (led : Int) := by rw [hled, hn4]; unfold ledAt; omega
      have r6 := hR.cell 6
      simp only [List.getElem?_toArray, List.getElem?_cons_zero, List.getElem?_cons_succ] at r6
      subst hadd
      have HLED := Lib.hid hled
      have hled20 : led < 20 := by omega
      generalize r.zs.getD n4 0 = z4 at *
      clear hcs hn4 hled
      obtain ⟨w3, rfl⟩ : ∃ w3 : World, w3 = wr := ⟨_, rfl⟩
      go_wp2_with fail
      clear hn4I hledI r6 hc4
      obtain ⟨st, hst⟩ : ∃ st, st = seatAt r.t r.ld0 r.zs n := ⟨_, rfl⟩
      have hst4 : st < 4 := by rw [hst]; exact seatAt_lt _ _ _ _
      obtain ⟨hcse, -⟩ := own_at hoSb (k := n) (by rw [seatsTo_length]; exact hlt)
      rw [seatsTo_get r hlt, ← hst] at hcse
      have HST := Lib.hid hst
      clear hst
      have hcst : w3.cell? ⟨w.heap.size, st, none⟩ = some (.int .u64 (r.h st : Int)) := by
        rw [hR.cell st]
        rcases (show st = 0 ∨ st = 1 ∨ st = 2 ∨ st = 3 by omega) with h | h | h | h <;> rw [h] <;> rfl
      go_loopg [11, 12] 52 (fun gc could c wr => ∃ c0 : Nat, gc = 52 - c0 ∧ c0 ≤ 52 ∧ c = .int .i64 (c0 : Int) ∧ could = .bool (couldTo r n c0) ∧ wr = w3)
      case atStart => exact ⟨0, by omega, by omega, rfl, rfl, rfl⟩
      case round =>
        obtain ⟨c0, rfl, hc0, rfl, rfl, rfl⟩ := hrel
        by_cases hcl : c0 < 52
        · have hclB : decide ((c0 : Int) < 52) = true := by rw [decide_eq_true_eq]; omega
          have HCS := Lib.hid (show couldTo r n (c0 + 1) = (couldTo r n c0 || (leftTo r n c0 n && decide (c0 / 13 = led))) from by rw [couldTo_succ, HLED.out]; rfl)
          have HHAS := Lib.hid (rf_has (r.h st) c0 (HW.out st) (by omega) wr)
          have HL0 := Lib.hid (show leftTo r n c0 0 = (r.h st).testBit c0 by rw [leftTo_zero, ← HST.out])
          generalize couldTo r n c0 = cb at *
          go_wp2_with (go_at_call 43; refine HHAS.out.mono ?_; rintro e w' ⟨rfl, rfl⟩)
          go_loopg [13, 14] n (fun gk lf k wr' => ∃ k0 : Nat, gk = n - k0 ∧ k0 ≤ n ∧ k = .int .i64 (k0 : Int) ∧ lf = .bool (leftTo r n c0 k0) ∧ wr' = wr)
          case atStart => exact ⟨0, by omega, by omega, rfl, by rw [HL0.out], rfl⟩
          case round =>
            obtain ⟨k0, rfl, hk0, rfl, rfl, rfl⟩ := hrel
            have r6 := hR.cell 6
            simp only [List.getElem?_toArray, List.getElem?_cons_zero, List.getElem?_cons_succ] at r6
            by_cases hkl : k0 < n
            · have hklB : decide (k0 < n) = true := by rw [decide_eq_true_eq]; exact hkl
              obtain ⟨b2, o2, had2, hbb2, hcs2⟩ := hzb.at (by omega)
              have e1 : b = b2 := by injection had2 with h; injection h
              have e2 : off = o2 := by injection had2 with h; injection h
              subst e1 e2
              have hck := hcs2 k0 (by omega)
              have byk := hzb.byte k0
              have hkL : k0 < len := by omega
              have HLS := Lib.hid (leftTo_succ r n c0 (k := k0) (by rw [HLEN.out]; omega))
              clear hcs2 had2
              generalize r.zs.getD k0 0 = y at *
              generalize leftTo r n c0 k0 = lb at *
              cases lb
              · go_wp2
                go_roundg (n - (k0 + 1))
                case rel => exact ⟨k0 + 1, rfl, by omega, by go_num, by rw [HLS.out]; rfl, rfl⟩
                case measure => omega
              · by_cases hyc : y = c0
                · have hyB : ((y : Int) != (c0 : Int)) = false := by rw [bne_eq_false_iff_eq]; omega
                  have HY := Lib.hid hyc
                  clear hyc
                  go_wp2
                  go_roundg (n - (k0 + 1))
                  case rel => exact ⟨k0 + 1, rfl, by omega, by go_num, by rw [HLS.out]; simp [HY.out], rfl⟩
                  case measure => omega
                · have hyB : ((y : Int) != (c0 : Int)) = true := by rw [bne_iff_ne]; omega
                  have HY := Lib.hid hyc
                  clear hyc
                  go_wp2
                  go_roundg (n - (k0 + 1))
                  case rel => exact ⟨k0 + 1, rfl, by omega, by go_num, by rw [HLS.out]; simp [HY.out], rfl⟩
                  case measure => omega
            · have hke : k0 = n := by omega
              have hklB : decide (k0 < n) = false := by rw [decide_eq_false_iff_not]; exact hkl
              have HCS2 := Lib.hid (show couldTo r n (c0 + 1) = (cb || (leftTo r n c0 k0 && decide (c0 / 13 = led))) by rw [HCS.out, hke])
              clear HCS hke hkl hk0 HL0 HHAS
              generalize leftTo r n c0 k0 = lb at *
              have e8 : IntKind.u8.wrap ((c0 : Int) / 13) = (c0 : Int) / 13 := by rw [IntKind.wrap_u8]; omega
              cases cb
              · cases lb
                · go_wp2
                  go_roundg (52 - (c0 + 1))
                  case rel => exact ⟨c0 + 1, rfl, by omega, by go_num, by rw [HCS2.out]; rfl, rfl⟩
                  case measure => omega
                · by_cases hq : c0 / 13 = led
                  · have hqB : ((c0 : Int) / 13 == (led : Int)) = true := by rw [beq_iff_eq]; omega
                    have HQ := Lib.hid hq
                    clear hq
                    go_wp2
                    go_roundg (52 - (c0 + 1))
                    case rel => exact ⟨c0 + 1, rfl, by omega, by go_num, by rw [HCS2.out]; simp [HQ.out], rfl⟩
                    case measure => omega
                  · have hqB : ((c0 : Int) / 13 == (led : Int)) = false := by rw [beq_eq_false_iff_ne]; omega
                    have HQ := Lib.hid hq
                    clear hq
                    go_wp2
                    go_roundg (52 - (c0 + 1))
                    case rel => exact ⟨c0 + 1, rfl, by omega, by go_num, by rw [HCS2.out]; simp [HQ.out], rfl⟩
                    case measure => omega
              · go_wp2
                go_roundg (52 - (c0 + 1))
                case rel => exact ⟨c0 + 1, rfl, by omega, by go_num, by rw [HCS2.out]; rfl, rfl⟩
                case measure => omega
        · have hce : c0 = 52 := by omega
          have hclB : decide ((c0 : Int) < 52) = false := by rw [decide_eq_false_iff_not]; omega
          have HRV := Lib.hid (show revAt r.h r.t r.ld0 r.zs n = (decide (r.zs.getD n 0 / 13 ≠ led) && couldTo r n c0) by rw [rev_could, hce, HLED.out])
          have HFS := Lib.hid (flatI_succ r n)
          clear hce hcl hc0
          generalize couldTo r n c0 = cb at *
          have r6 := hR.cell 6
          simp only [List.getElem?_toArray, List.getElem?_cons_zero, List.getElem?_cons_succ] at r6
          obtain ⟨b2, o2, had2, hbb2, hcs2⟩ := hzb.at (by omega)
          have e1 : b = b2 := by injection had2 with h; injection h
          have e2 : off = o2 := by injection had2 with h; injection h
          subst e1 e2
          have hcn := hcs2 n hlt
          have byn := hzb.byte n
          clear hcs2 had2
          generalize hznE : r.zs.getD n 0 = zn at *
          have HZN := Lib.hid hznE
          clear hznE
          by_cases hq : zn / 13 = led
          · have hqB : ((zn : Int) / 13 == (led : Int)) = true := by rw [beq_iff_eq]; omega
            have HN := Lib.hid (show flatI r (n + 1) = flatI r n by rw [HFS.out, HRV.out]; simp [hq])
            clear hq
            go_wp2
            go_roundg (len - (n + 1))
            case rel => exact ⟨n + 1, rfl, by omega, by go_num, by rw [HN.out]; exact hown, hb⟩
            case measure => omega
          · have hqB : ((zn : Int) / 13 == (led : Int)) = false := by rw [beq_eq_false_iff_ne]; omega
            cases cb
            · have HN := Lib.hid (show flatI r (n + 1) = flatI r n by rw [HFS.out, HRV.out]; simp)
              clear hq
              go_wp2
              go_roundg (len - (n + 1))
              case rel => exact ⟨n + 1, rfl, by omega, by go_num, by rw [HN.out]; exact hown, hb⟩
              case measure => omega
            · have HN := Lib.hid (show flatI r (n + 1) = flatI r n ++ [rvAt r.t r.ld0 r.zs r.zs.length n] by rw [HFS.out, HRV.out]; simp [hq])
              clear hq HFS HRV
              obtain ⟨tq, htq⟩ : ∃ tq, tq = n / 4 := ⟨_, rfl⟩
              have htqI : (n : Int) / 4 = (tq : Int) := by omega
              have htq6 : tq ≤ 60000 := by omega
              have HTQ := Lib.hid htq
              clear htq
              have hRl := hR.lt
              have hgsl := (Owns.row hoSb (g := gs) rfl).2.1
              go_upto_region 21 with fail
              go_region
              have hRow0 : Row (wr.alloc (.cells #[.int .i64 (tq : Int), .int .u8 (st : Int), .int .u8 (led : Int), .int .u8 (zn : Int), .bool false] 69)).drew wr.heap.size 69 #[.int .i64 (tq : Int), .int .u8 (st : Int), .int .u8 (led : Int), .int .u8 (zn : Int), .bool false] := Row.new wr _ _
              have hbb6 := (hb.alloc hb.size (.cells #[.int .i64 (tq : Int), .int .u8 (st : Int), .int .u8 (led : Int), .int .u8 (zn : Int), .bool false] 69)).drew
              have hoS6 := Owns.drew (Owns.alloc hoSb (.cells #[.int .i64 (tq : Int), .int .u8 (st : Int), .int .u8 (led : Int), .int .u8 (zn : Int), .bool false] 69))
              have hown6 := Owns.drew (Owns.alloc hown (.cells #[.int .i64 (tq : Int), .int .u8 (st : Int), .int .u8 (led : Int), .int .u8 (zn : Int), .bool false] 69))
              have hogl : ∀ g, (Value.slice ao lo co).ownBlock = some g → g ≠ wr.heap.size := fun g hg => by have := (Owns.row hown hg).2.1; omega
              have hszw := hb.size
              clear hR hcst hcse r6 hcn hzb hB hRl hown hoSb
              go_wp2_with fail
              generalize (wr.alloc (.cells #[.int .i64 (tq : Int), .int .u8 (st : Int), .int .u8 (led : Int), .int .u8 (zn : Int), .bool false] 69)).drew = w6 at *
              generalize wr.heap.size = B5 at *
              have hk6 := Kept.refl (fun b => b ≠ B5) w6
              go_loopg [16] len (fun gk i wx => ∃ k : Nat, gk = len - k ∧ k ≤ len ∧ i = .int .i64 (k : Int) ∧ Row wx B5 69 #[.int .i64 (tq : Int), .int .u8 (st : Int), .int .u8 (led : Int), .int .u8 (zn : Int), .bool (estAt r.t r.ld0 r.zs k n)] ∧ Kept (fun b => b ≠ B5) w6 wx ∧ Below w2.heap.size w2 wx)
              case atStart => exact ⟨0, by omega, by omega, rfl, hRow0, hk6, hbb6⟩
              case round =>
                obtain ⟨k, rfl, hk, rfl, hRow, hkp, hbx⟩ := hrel
                by_cases hkl : k < len
                · have hklB : decide (k < len) = true := by rw [decide_eq_true_eq]; exact hkl
                  have hoSx := hoS6.keptS (S := fun b => b ≠ B5) (by intro b hb; simp [Value.ownBlock] at hb; omega) hkp
                  obtain ⟨hck, -⟩ := own_at hoSx (k := k) (by rw [seatsTo_length]; exact hkl)
                  obtain ⟨hcn, -⟩ := own_at hoSx (k := n) (by rw [seatsTo_length]; exact hlt)
                  rw [seatsTo_get r hkl] at hck
                  rw [seatsTo_get r hlt, ← HST.out] at hcn
                  have HES := Lib.hid (estAt_succ r.t r.ld0 r.zs k n)
                  rw [← HST.out, ← HTQ.out] at HES
                  have hs4 := seatAt_lt r.t r.ld0 r.zs k
                  have HE := Lib.hid (est_seats hs4 hst4)
                  generalize seatAt r.t r.ld0 r.zs k = sk at *
                  generalize estAt r.t r.ld0 r.zs k n = eb at *
                  have rck := fun dd os => cell_regrown hck dd os
                  have rcn := fun dd os => cell_regrown hcn dd os
                  have hbxs := hbx.size
                  by_cases hq1 : k / 4 = tq + 1
                  · have hqB : ((k : Int) / 4 == (tq : Int) + 1) = true := by rw [beq_iff_eq]; omega
                    have HQ := Lib.hid hq1
                    clear hq1
                    by_cases hq2 : sk = st
                    · have hqC : ((sk : Int) == (st : Int)) = true := by rw [beq_iff_eq]; omega
                      have HE1 := Lib.hid (show estAt r.t r.ld0 r.zs (k + 1) n = true by rw [HES.out]; simp [HQ.out, hq2])
                      clear hq2
                      go_wp2
                      refine wp_region_quiet_below (by kernel_rfl) (by kernel_rfl) ?_
                      repeat (first | go_big_quiet_step (fail) | quiet_step (fail))
                      refine wpQuiet_nil ?_
                      rintro _ ⟨p, rfl⟩
                      clear rck rcn
                      have hb9 := below_regrown wr p.d p.os
                      generalize grow (redrawn wr p.d) p.os = w9 at *
                      have hRow9 := hRow.below hRow.lt hb9
                      have e4 := hRow9.cell 4
                      have f4 := hRow9.frozen 4
                      simp only [List.getElem?_toArray, List.getElem?_cons_zero, List.getElem?_cons_succ] at e4
                      have hset := hRow9.set 4 (.bool true)
                      have hkk := (hkp.trans (Kept.of_below hb9)).setCell (p := ⟨B5, 4, none⟩) (by simp) (.bool true)
                      have hbb := (hbx.trans (hb9.mono hbxs)).setCell (p := ⟨B5, 4, none⟩) (by simp; omega) (.bool true)
                      go_wp2
                      go_roundg (len - (k + 1))
                      case rel => exact ⟨k + 1, rfl, by omega, by go_num, by rw [HE1.out]; exact hset, hkk, hbb⟩
                      case measure => omega
                    · have hqC : ((sk : Int) == (st : Int)) = false := by rw [beq_eq_false_iff_ne]; omega
                      by_cases hq3 : sk = (st + 2) % 4
                      · have hqD : ((sk : Int) == ((st : Int) + 2) % 4) = true := by rw [beq_iff_eq]; omega
                        have HE1 := Lib.hid (show estAt r.t r.ld0 r.zs (k + 1) n = true by rw [HES.out]; simp [HQ.out, HE.out.2 (.inr hq3)])
                        clear hq2 hq3
                        go_wp2
                        refine wp_region_quiet_below (by kernel_rfl) (by kernel_rfl) ?_
                        repeat (first | go_big_quiet_step (fail) | quiet_step (fail))
                        refine wpQuiet_nil ?_
                        rintro _ ⟨p, rfl⟩
                        clear rck rcn
                        have hb9 := below_regrown wr p.d p.os
                        generalize grow (redrawn wr p.d) p.os = w9 at *
                        have hRow9 := hRow.below hRow.lt hb9
                        have e4 := hRow9.cell 4
                        have f4 := hRow9.frozen 4
                        simp only [List.getElem?_toArray, List.getElem?_cons_zero, List.getElem?_cons_succ] at e4
                        have hset := hRow9.set 4 (.bool true)
                        have hkk := (hkp.trans (Kept.of_below hb9)).setCell (p := ⟨B5, 4, none⟩) (by simp) (.bool true)
                        have hbb := (hbx.trans (hb9.mono hbxs)).setCell (p := ⟨B5, 4, none⟩) (by simp; omega) (.bool true)
                        go_wp2
                        go_roundg (len - (k + 1))
                        case rel => exact ⟨k + 1, rfl, by omega, by go_num, by rw [HE1.out]; exact hset, hkk, hbb⟩
                        case measure => omega
                      · have hqD : ((sk : Int) == ((st : Int) + 2) % 4) = false := by rw [beq_eq_false_iff_ne]; omega
                        have hno : ¬ sk % 2 = st % 2 := fun h => (HE.out.1 h).elim hq2 hq3
                        have HE1 := Lib.hid (show estAt r.t r.ld0 r.zs (k + 1) n = eb by rw [HES.out]; simp [hno])
                        clear hq2 hq3 hno
                        go_wp2
                        refine wp_region_quiet_below (by kernel_rfl) (by kernel_rfl) ?_
                        repeat (first | go_big_quiet_step (fail) | quiet_step (fail))
                        refine wpQuiet_nil ?_
                        rintro _ ⟨p, rfl⟩
                        clear rck rcn
                        have hb9 := below_regrown wr p.d p.os
                        generalize grow (redrawn wr p.d) p.os = w9 at *
                        go_wp2
                        go_roundg (len - (k + 1))
                        case rel => exact ⟨k + 1, rfl, by omega, by go_num, by rw [HE1.out]; exact hRow.below hRow.lt hb9, hkp.trans (Kept.of_below hb9), hbx.trans (hb9.mono hbxs)⟩
                        case measure => omega
                  · have hqB : ((k : Int) / 4 == (tq : Int) + 1) = false := by rw [beq_eq_false_iff_ne]; omega
                    have HE1 := Lib.hid (show estAt r.t r.ld0 r.zs (k + 1) n = eb by rw [HES.out]; simp [hq1])
                    clear hq1
                    go_wp2
                    refine wp_region_quiet_below (by kernel_rfl) (by kernel_rfl) ?_
                    repeat (first | go_big_quiet_step (fail) | quiet_step (fail))
                    refine wpQuiet_nil ?_
                    rintro _ ⟨p, rfl⟩
                    clear rck rcn
                    have hb9 := below_regrown wr p.d p.os
                    generalize grow (redrawn wr p.d) p.os = w9 at *
                    go_wp2
                    go_roundg (len - (k + 1))
                    case rel => exact ⟨k + 1, rfl, by omega, by go_num, by rw [HE1.out]; exact hRow.below hRow.lt hb9, hkp.trans (Kept.of_below hb9), hbx.trans (hb9.mono hbxs)⟩
                    case measure => omega
                · have hke : k = len := by omega
                  have hklB : decide (k < len) = false := by rw [decide_eq_false_iff_not]; exact hkl
                  have hEV := Lib.hid (show (rvAt r.t r.ld0 r.zs r.zs.length n).cells = [.int .i64 (tq : Int), .int .u8 (st : Int), .int .u8 (led : Int), .int .u8 (zn : Int), .bool (estAt r.t r.ld0 r.zs k n)] by
                    unfold rvAt Rvk.cells
                    rw [HLEN.out, hke, HTQ.out, HST.out, HLED.out, HZN.out])
                  clear hke hkl hk
                  generalize estAt r.t r.ld0 r.zs k n = eb at *
                  have hownx := hown6.keptS (S := fun b => b ≠ B5) hogl hkp
                  have d0 := hRow.cell 0
                  have d1 := hRow.cell 1
                  have d2 := hRow.cell 2
                  have d3 := hRow.cell 3
                  have d4 := hRow.cell 4
                  simp only [List.getElem?_toArray, List.getElem?_cons_zero, List.getElem?_cons_succ] at d0 d1 d2 d3 d4
                  have hbxs := hbx.size
                  have hRl := hRow.lt
                  obtain ⟨wx, rfl⟩ : ∃ wx : World, wx = wr := ⟨_, rfl⟩
                  have hnews := World.news_of_block (w := wx.alloc (.cells #[.int .i64 (tq : Int), .int .u8 (st : Int), .int .u8 (led : Int), .int .u8 (zn : Int), .bool eb] 69)) (B := wx.heap.size) (cs := #[.int .i64 (tq : Int), .int .u8 (st : Int), .int .u8 (led : Int), .int .u8 (zn : Int), .bool eb]) (t := 69) (fr := (0, 0)) (World.alloc_heap_new wx _)
                  have HOL := Lib.hid (show (flatI r n).length ≤ 60000 by have := flatI_le r n; omega)
                  go_wp2_with (at_builtin; go_loud (refine wpList_append_own_at _ rfl (.tmp 147) (.tmp 149) 63 rfl w2.heap.size 69 i0 _ 5 16 Try.underlying63 hi0 hz0 hz1 hz2 rfl (by decide) _ _ _ rfl (Owns.alloc hownx _).2 ⟨wx.heap.size, 0, none⟩ 1 1 [.int .i64 (tq : Int), .int .u8 (st : Int), .int .u8 (led : Int), .int .u8 (zn : Int), .bool eb] rfl rfl hnews (by simp [Value.oneCell']) (by have := HOL.out; unfold maxLen; omega) (by have := HOL.out; omega) (by simp; omega) ?_); intro v' w10 hown' hgrow _ hloc)
                  go_roundg (len - (n + 1))
                  case rel =>
                    refine ⟨n + 1, rfl, by omega, by go_num, ⟨rvk_len, ?_⟩, ?_⟩
                    · rw [HN.out, List.length_append, List.flatMap_append, List.flatMap_cons, List.flatMap_nil, List.append_nil, hEV.out]
                      exact hown'
                    · exact (hbx.alloc hbxs _).grown hgrow (by simp; omega) (fun g hg => (Owns.row hownx hg).1)
                  case measure => omega
    · have hne : n = len := by omega
      have HQ := Lib.hid (show findAll r.rnds = flatI r n by rw [HFF.out, HLEN.out, hne])
      have hltB : decide (n < len) = false := by rw [decide_eq_false_iff_not]; exact hlt
      clear hne
      go_wp2
      go_ret2
      exact ⟨_, rfl, by rw [HQ.out]; exact hown.mono (by omega), hB⟩
end Go.Proofs.Ytdlnilebnobllaa
