/- The body of finesselaw13.RevokeDummy over this seat's program. -/
import Derived.Test.YtdlnilebnobllaaRvDmP
import Derived.Test.YtdlnilebnobllaaRvAw
namespace Go.Proofs.Ytdlnilebnobllaa
open Go.RowKit Go.Shelf Go.Sort

set_option maxHeartbeats 2000000 in
set_option maxRecDepth 100000 in
theorem law_RevokeDummy (x : Sk) (ao : Option Addr) (lo co : Nat) (ap : Option Addr) (lp cp : Nat) (w : World) (ho : Byt w ao lo x.order) (hp : Byt w ap lp x.play)
    (hsz : x.size < 256) (htr : x.trumps < 256) (hde : x.decl < 256) :
    Calls Try.prog 9 #[.agg (x.cells ao lo co ap lp cp)] w fun e w' => e = .returned (.bool true) ∧ Below w.heap.size w w' := by
  have hn := x.n_le
  have HA := Lib.hid (show ∀ w1, Calls Try.prog 12 #[] w1 fun e w' => e = .returned (.bool true) ∧ Below w1.heap.size w1 w' from awake_true)
  have HM : Hid (∀ w1, Below w.heap.size w w1 → Calls Try.prog 17 #[.agg (x.cells ao lo co ap lp cp)] w1 fun e w' =>
      ∃ a cap, e = .returned (x.rc.v a (4 * x.n) cap) ∧ x.rc.ok (4 * x.n) cap ∧ Byt w' a (4 * x.n) x.rc.zs ∧ (∀ ad, a = some ad → w1.heap.size ≤ ad.block ∧ ad.block < w'.heap.size) ∧ OwnU w' w1.heap.size (.slice a (4 * x.n) cap) x.rc.zs ∧ Below w1.heap.size w1 w') :=
    fun w1 hb => law_made x ao lo co ap lp cp w1 (ho.below (Nat.le_refl _) hb) (hp.below (Nat.le_refl _) hb) hsz htr hde
  go_enter Try.func9, Try.ntmps9
  go_wp2_with fail
  have hB0 := (Below.refl w.heap.size w).alloc (Nat.le_refl _) (.cells (x.cells ao lo co ap lp cp) 36)
  have hX := Row.new w 36 (x.cells ao lo co ap lp cp)
  refine (HA.out _).mono ?_
  rintro e w1 ⟨rfl, hb1⟩
  have hB1 := hB0.trans (hb1.mono hB0.size)
  have hX1 := hX.below hX.lt hb1
  clear hX hB0 hb1
  have x0 := hX1.cell 0
  have x1 := hX1.cell 1
  have x2 := hX1.cell 2
  have x3 := hX1.cell 3
  have x4 := hX1.cell 4
  have x5 := hX1.cell 5
  simp only [List.getElem?_toArray, List.getElem?_cons_zero, List.getElem?_cons_succ] at x0 x1 x2 x3 x4 x5
  go_wp2_with fail
  refine (HM.out w1 hB1).mono ?_
  rintro e w2 ⟨a, cap, rfl, hok, hz, hab, how, hb2⟩
  have hB2 := hB1.trans (hb2.mono hB1.size)
  have hR := Row.new w2 27 (x.rc.cells a (4 * x.n) cap)
  have hBr : Below w2.heap.size w2 (w2.alloc (.cells (x.rc.cells a (4 * x.n) cap) 27)) := (Below.refl _ _).alloc (Nat.le_refl _) _
  have hzB : ∀ w3, Below w2.heap.size w2 w3 → Byt w3 a (4 * x.n) x.rc.zs ∧ ∀ ad, a = some ad → ad.block < w3.heap.size := fun w3 h => ⟨hz.below (Nat.le_refl _) h, fun ad he => Nat.lt_of_lt_of_le (hab ad he).2 h.size⟩
  clear x0 x1 x2 x3 x4 x5 hX1 HA HM
  have HF : Hid (∀ w3, Below w2.heap.size w2 w3 → Calls Try.prog 21 #[x.rc.v a (4 * x.n) cap] w3 fun e w' => ∃ v, e = .returned (.tuple #[v, .int .i64 0]) ∧ OwnV w' w3.heap.size v (findAll x.rc.rnds) ∧ Below w3.heap.size w3 w') :=
    fun w3 h => rev_find_ok _ _ _ _ w3 hok (hzB w3 h).1 (hzB w3 h).2 (made_dealt x) (made_right x) (by omega)
  have HMV : Hid (∀ w3, Below w2.heap.size w2 w3 → Calls Try.prog 19 #[x.rc.v a (4 * x.n) cap] w3 fun e w' => e = .returned (.tuple #[.int .i64 (x.rc.movedV.1 : Int), .int .i64 (x.rc.movedV.2.1 : Int), .int .i64 (x.rc.movedV.2.2 : Int)]) ∧ Below w3.heap.size w3 w') :=
    fun w3 h => rev_moved _ _ _ _ w3 hok (hzB w3 h).1 (hzB w3 h).2 (by omega)
  obtain ⟨A, B, hmv, hA24, hB24, hlaw⟩ := made_dummy x
  rw [hmv] at HMV
  have hll : (findAll x.rc.rnds).length ≤ 24 := by have h1 := findAll_len x.rc.rnds; have h2 := (made_rnds x).1; omega
  have hrd3 : x.rc.d ≤ 3 := dealt_d (made_dealt x)
  clear hmv hzB
  generalize findAll x.rc.rnds = l at *
  have HLAW := Lib.hid hlaw
  clear hlaw
  go_wp2_with fail
  refine (HF.out _ hBr).mono ?_
  rintro e w3 ⟨v, rfl, hoV, hb3⟩
  obtain ⟨al, cl, rfl, hne⟩ := hoV.slice
  have HNE := Lib.hid hne
  clear hne
  have hR3 := hR.below (by simp) hb3
  have hBr3 := hBr.trans (hb3.mono (by simp))
  have r0 := hR3.cell 0
  have r1 := hR3.cell 1
  have r2 := hR3.cell 2
  have r3 := hR3.cell 3
  have r4 := hR3.cell 4
  have r5 := hR3.cell 5
  have r6 := hR3.cell 6
  simp only [List.getElem?_toArray, List.getElem?_cons_zero, List.getElem?_cons_succ] at r0 r1 r2 r3 r4 r5 r6
  go_wp2_with fail
  refine (HMV.out _ hBr3).mono ?_
  rintro e w4 ⟨rfl, hb4⟩
  clear r0 r1 r2 r3 r4 r5 r6
  have hR4 := hR3.below hR3.lt hb4
  have hBr4 := hBr3.trans (hb4.mono hBr3.size)
  have hoV4 := hoV.below hb4
  have hB4 := hB2.trans (hBr4.mono hB2.size)
  clear hR hR3 hb3 hb4 hBr hBr3 hoV how hok hz hab HF HMV
  go_wp2_with fail
  have hW := Row.new w4 52 #[.bool false, .bool false]
  have hR5 := hR4.alloc (.cells #[.bool false, .bool false] 52)
  have hoV5 := hoV4.alloc (.cells #[.bool false, .bool false] 52)
  have hB5 := hB4.alloc hB4.size (.cells #[.bool false, .bool false] 52)
  have hRw := hR4.lt
  have hN4 := hB4.size
  have hgb : ∀ g, (Value.slice al l.length cl).ownBlock = some g → g ≠ w4.heap.size := fun g h => by have := (hoV4.row h).2.1; omega
  clear hR4 hoV4 hB4
  generalize hw5 : w4.alloc (.cells #[.bool false, .bool false] 52) = w5 at *
  clear hw5
  go_loopw [10, 34] (fun o i wr => ∃ k : Nat, k ≤ l.length ∧ i = .int .i64 (k : Int) ∧ o = .bool (othV x.rc.d (l.take k)) ∧ Row wr w4.heap.size 52 #[.bool (sideV (l.take k) 0), .bool (sideV (l.take k) 1)] ∧ Kept (fun b => b ≠ w4.heap.size) w5 wr ∧ Below w.heap.size w wr) (fun _ i _ => l.length - (intOf i).toNat)
  case atStart => exact ⟨0, by omega, rfl, rfl, hW, Kept.refl _ _, hB5⟩
  case round =>
    obtain ⟨k, hk, rfl, rfl, hWr, hkp, hbl⟩ := hrel
    by_cases hlt : k < l.length
    · obtain ⟨g, hg⟩ := HNE.out (by intro e; rw [e] at hlt; simp at hlt)
      subst hg
      have hoR := hoV5.keptS (S := fun b => b ≠ w4.heap.size) hgb hkp
      obtain ⟨c0, c1, c2, c3, c4⟩ := ownV_cells hoR k (List.getElem?_eq_getElem hlt)
      have hs0 := Lib.hid (sideV_succ l 0 k hlt)
      have hs1 := Lib.hid (sideV_succ l 1 k hlt)
      have hso := Lib.hid (othV_succ x.rc.d l k hlt)
      have hRr := hR5.kept (by omega) hkp
      generalize l[k] = y at *
      generalize sideV (l.take k) 0 = a0 at *
      generalize sideV (l.take k) 1 = a1 at *
      generalize othV x.rc.d (l.take k) = o at *
      have hSa := hWr.alloc (.cells #[.int .i64 (y.trick : Int), .int .u8 (y.seat : Int), .int .u8 (y.suit : Int), .int .u8 (y.card : Int), .bool y.est] 50)
      have d0 := hSa.cell (y.seat % 2)
      have f0 := hSa.frozen (y.seat % 2)
      have r5 := hRr.cell 5
      simp only [List.getElem?_toArray, List.getElem?_cons_zero, List.getElem?_cons_succ] at r5
      have hs2 : y.seat % 2 = 0 ∨ y.seat % 2 = 1 := by omega
      obtain ⟨z, hz⟩ : ∃ z, #[Value.bool a0, Value.bool a1][y.seat % 2]? = some z := by rcases hs2 with h | h <;> rw [h] <;> exact ⟨_, rfl⟩
      rw [hz] at d0
      clear hz hs2 hoR hoV5 hgb hk
      have hszr := hbl.size
      have hne : w2.heap.size ≠ w4.heap.size := by omega
      have hRlt := hRr.lt
      have hWlt := hWr.lt
      cases he : y.est
      · have HE := Lib.hid he
        rw [he] at c4 hSa d0 f0
        clear he
        go_wp2
        go_roundw
        case rel => exact ⟨k + 1, by omega, by go_num, by rw [hso.out, HE.out]; simp, by rw [hs0.out, hs1.out, HE.out]; simpa using hWr.alloc _, hkp.alloc _, hbl.alloc hszr _⟩
        case measure => simp [intOf]; omega
      · have HE := Lib.hid he
        rw [he] at c4 hSa d0 f0
        clear he
        by_cases hq : y.seat = (x.rc.d + 2) % 4
        · have HQ := Lib.hid hq
          have hqI : ((y.seat : Int) != ((x.rc.d : Int) + 2) % 4) = false := by rw [bne_eq_false_iff_eq]; omega
          clear hq
          cases o
          all_goals
            go_wp2
            go_roundw
            case rel =>
              refine ⟨k + 1, by omega, by go_num, by rw [hso.out, HE.out]; simp [HQ.out], ?_, ((hkp.setCell (by simp) _).alloc _), (hbl.setCell (by simp; omega) _).alloc (by simpa using hszr) _⟩
              have h3 := (hWr.set (y.seat % 2) (.bool true)).alloc (.cells #[.int .i64 (y.trick : Int), .int .u8 (y.seat : Int), .int .u8 (y.suit : Int), .int .u8 (y.card : Int), .bool true] 50)
              rw [hs0.out, hs1.out, HE.out]
              have hs2 : y.seat % 2 = 0 ∨ y.seat % 2 = 1 := by omega
              rcases hs2 with h | h <;> rw [h] at h3 ⊢ <;> simpa using h3
            case measure => simp [intOf]; omega
        · have HQ := Lib.hid hq
          have hqI : ((y.seat : Int) != ((x.rc.d : Int) + 2) % 4) = true := by rw [bne_iff_ne]; omega
          clear hq
          cases o
          all_goals
            go_wp2
            go_roundw
            case rel =>
              refine ⟨k + 1, by omega, by go_num, by rw [hso.out, HE.out]; simp [HQ.out], ?_, ((hkp.setCell (by simp) _).alloc _), (hbl.setCell (by simp; omega) _).alloc (by simpa using hszr) _⟩
              have h3 := (hWr.set (y.seat % 2) (.bool true)).alloc (.cells #[.int .i64 (y.trick : Int), .int .u8 (y.seat : Int), .int .u8 (y.suit : Int), .int .u8 (y.card : Int), .bool true] 50)
              rw [hs0.out, hs1.out, HE.out]
              have hs2 : y.seat % 2 = 0 ∨ y.seat % 2 = 1 := by omega
              rcases hs2 with h | h <;> rw [h] at h3 ⊢ <;> simpa using h3
            case measure => simp [intOf]; omega
    · have hke : k = l.length := by omega
      have d0 := hWr.cell 0
      have d1 := hWr.cell 1
      simp at d0 d1
      rw [List.take_of_length_le (by omega)] at d0 d1
      have hlaw := HLAW.out
      have HBL := Lib.hid hbl
      clear hbl
      rcases hlaw with ⟨h1, h2⟩ | ⟨h1, h2⟩
      · subst h1 h2
        go_wp2
        go_ret
        exact ⟨rfl, HBL.out⟩
      · have ht : l.take k = l := List.take_of_length_le (by omega)
        rw [ht, h1]
        generalize sideV l 0 = a0 at *
        generalize sideV l 1 = a1 at *
        clear ht h1
        by_cases hAB : A + B = 0
        · obtain rfl : A = 0 := by omega
          obtain rfl : B = 0 := by omega
          go_wp2
          go_ret
          exact ⟨rfl, HBL.out⟩
        · have hab' : ((A : Int) + (B : Int) == 0) = false := by rw [beq_eq_false_iff_ne]; omega
          clear hAB
          cases a0 <;> cases a1 <;> (try cases h2)
          all_goals
            go_wp2
            go_ret
            exact ⟨rfl, HBL.out⟩
end Go.Proofs.Ytdlnilebnobllaa
