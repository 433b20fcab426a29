/- The body of finesselaw13.RevokeFinds over this seat's program. -/
import Derived.Test.YtdlnilebnobllaaRvDmP
import Derived.Test.YtdlnilebnobllaaRvFm
import Derived.Test.YtdlnilebnobllaaRvAw
import Derived.Laws.StructEq
namespace Go.Proofs.Ytdlnilebnobllaa
open Go.RowKit Go.Shelf Go.Sort

theorem made_zero (x : Sk) (h : findAll x.rc.rnds = []) : x.rc.movedV = (0, 0, 0) := by
  obtain ⟨A, B, hmv, -, -, hl⟩ := made_dummy x
  rw [h] at hl
  rcases hl with ⟨rfl, rfl⟩ | ⟨h1, _⟩
  · exact hmv
  · simp [othV] at h1
/-- what the law wants at a place -/
theorem made_want (x : Sk) {i : Nat} (hi : i < 4 * x.n) : rvAt x.rc.t x.rc.ld0 x.rc.zs (4 * x.n) i = ⟨i / 4, holdV x.rc.h (x.rc.zs.getD i 0), ledAt x.rc.zs i, x.rc.zs.getD i 0, decide (i / 4 < 4 * x.n / 4 - 1)⟩ := by
  unfold rvAt
  rw [made_est x hi, made_holder x hi, show 4 * x.n / 4 = x.n by omega]
theorem revN_lt (h : Nat → Nat) (t ld0 : Nat) (zs : List Nat) {i m : Nat} (hi : i < m) (hr : revAt h t ld0 zs i = true) : revN h t ld0 zs i < revN h t ld0 zs m := by
  have := revN_mono h t ld0 zs (i := i + 1) (j := m) (by omega)
  rw [revN_succ, if_pos hr] at this
  omega
theorem holdV_le (h : Nat → Nat) (c : Nat) : holdV h c ≤ 4 := by
  unfold holdV
  repeat' split
  all_goals omega

set_option maxHeartbeats 2000000 in
set_option maxRecDepth 100000 in
theorem law_RevokeFinds (x : Sk) (ao : Option Addr) (lo co : Nat) (ap : Option Addr) (lp cp : Nat) (w : World) (ho : Byt w ao lo x.order) (hp : Byt w ap lp x.play)
    (hsz : x.size < 256) (htr : x.trumps < 256) (hde : x.decl < 256) :
    Calls Try.prog 6 #[.agg (x.cells ao lo co ap lp cp)] w fun e w' => e = .returned (.bool true) ∧ Below w.heap.size w w' := by
  have hn := x.n_le
  have HA := Lib.hid (show ∀ w1, Calls Try.prog 12 #[] w1 fun e w' => e = .returned (.bool true) ∧ Below w1.heap.size w1 w' from awake_true)
  have HM : Hid (∀ w1, Below w.heap.size w w1 → Calls Try.prog 17 #[.agg (x.cells ao lo co ap lp cp)] w1 fun e w' =>
      ∃ a cap, e = .returned (x.rc.v a (4 * x.n) cap) ∧ x.rc.ok (4 * x.n) cap ∧ Byt w' a (4 * x.n) x.rc.zs ∧ (∀ ad, a = some ad → w1.heap.size ≤ ad.block ∧ ad.block < w'.heap.size) ∧ OwnU w' w1.heap.size (.slice a (4 * x.n) cap) x.rc.zs ∧ Below w1.heap.size w1 w') :=
    fun w1 hb => law_made x ao lo co ap lp cp w1 (ho.below (Nat.le_refl _) hb) (hp.below (Nat.le_refl _) hb) hsz htr hde
  go_enter Try.func6, Try.ntmps6
  go_wp2_with fail
  have hB0 := (Below.refl w.heap.size w).alloc (Nat.le_refl _) (.cells (x.cells ao lo co ap lp cp) 36)
  have hX := Row.new w 36 (x.cells ao lo co ap lp cp)
  refine (HA.out _).mono ?_
  rintro e w1 ⟨rfl, hb1⟩
  have hB1 := hB0.trans (hb1.mono hB0.size)
  have hX1 := hX.below hX.lt hb1
  clear hX hB0 hb1
  have x0 := hX1.cell 0
  have x1 := hX1.cell 1
  have x2 := hX1.cell 2
  have x3 := hX1.cell 3
  have x4 := hX1.cell 4
  have x5 := hX1.cell 5
  simp only [List.getElem?_toArray, List.getElem?_cons_zero, List.getElem?_cons_succ] at x0 x1 x2 x3 x4 x5
  go_wp2_with fail
  refine (HM.out w1 hB1).mono ?_
  rintro e w2 ⟨a, cap, rfl, hok, hz, hab, how, hb2⟩
  have hB2 := hB1.trans (hb2.mono hB1.size)
  have hR := Row.new w2 27 (x.rc.cells a (4 * x.n) cap)
  have hBr : Below w2.heap.size w2 (w2.alloc (.cells (x.rc.cells a (4 * x.n) cap) 27)) := (Below.refl _ _).alloc (Nat.le_refl _) _
  have hzB : ∀ w3, Below w2.heap.size w2 w3 → Byt w3 a (4 * x.n) x.rc.zs ∧ ∀ ad, a = some ad → ad.block < w3.heap.size := fun w3 h => ⟨hz.below (Nat.le_refl _) h, fun ad he => Nat.lt_of_lt_of_le (hab ad he).2 h.size⟩
  clear x0 x1 x2 x3 x4 x5 hX1 HA HM
  have HF : Hid (∀ w3, Below w2.heap.size w2 w3 → Calls Try.prog 21 #[x.rc.v a (4 * x.n) cap] w3 fun e w' => ∃ v, e = .returned (.tuple #[v, .int .i64 0]) ∧ OwnV w' w3.heap.size v (flatF x.rc.h x.rc.t x.rc.ld0 x.rc.zs (4 * x.n)) ∧ Below w3.heap.size w3 w') :=
    fun w3 h => by
      have := rev_find_ok _ _ _ _ w3 hok (hzB w3 h).1 (hzB w3 h).2 (made_dealt x) (made_right x) (by omega)
      rw [made_find x] at this
      exact this
  have HMV : Hid (∀ w3, Below w2.heap.size w2 w3 → Calls Try.prog 19 #[x.rc.v a (4 * x.n) cap] w3 fun e w' => e = .returned (.tuple #[.int .i64 (x.rc.movedV.1 : Int), .int .i64 (x.rc.movedV.2.1 : Int), .int .i64 (x.rc.movedV.2.2 : Int)]) ∧ Below w3.heap.size w3 w') :=
    fun w3 h => rev_moved _ _ _ _ w3 hok (hzB w3 h).1 (hzB w3 h).2 (by omega)
  obtain ⟨A, B, hmv, hA24, hB24, -⟩ := made_dummy x
  have HZ : Hid (revN x.rc.h x.rc.t x.rc.ld0 x.rc.zs (4 * x.n) = 0 → A = 0 ∧ B = 0) := by
    intro h0
    have := made_zero x (by rw [made_find x]; exact List.eq_nil_of_length_eq_zero (by rw [flatF_length]; exact h0))
    rw [hmv] at this
    simp only [Prod.mk.injEq, and_true] at this
    exact this
  rw [hmv] at HMV
  have hN24 := revN_le x.rc.h x.rc.t x.rc.ld0 x.rc.zs (4 * x.n)
  have HLEN := Lib.hid (flatF_length x.rc.h x.rc.t x.rc.ld0 x.rc.zs (4 * x.n))
  have HN0 := Lib.hid (show revN x.rc.h x.rc.t x.rc.ld0 x.rc.zs 0 = 0 from rfl)
  have HAT : Hid (∀ i, i < 4 * x.n → revAt x.rc.h x.rc.t x.rc.ld0 x.rc.zs i = true → (flatF x.rc.h x.rc.t x.rc.ld0 x.rc.zs (4 * x.n))[revN x.rc.h x.rc.t x.rc.ld0 x.rc.zs i]? = some ⟨i / 4, holdV x.rc.h (x.rc.zs.getD i 0), ledAt x.rc.zs i, x.rc.zs.getD i 0, decide (i / 4 < 4 * x.n / 4 - 1)⟩) :=
    fun i hi hr => by rw [flatF_at _ _ _ _ hi hr, made_want x hi]
  have HNS := Lib.hid (revN_succ x.rc.h x.rc.t x.rc.ld0 x.rc.zs)
  have HNL : Hid (∀ i, i < 4 * x.n → revAt x.rc.h x.rc.t x.rc.ld0 x.rc.zs i = true → revN x.rc.h x.rc.t x.rc.ld0 x.rc.zs i < revN x.rc.h x.rc.t x.rc.ld0 x.rc.zs (4 * x.n)) := fun i hi hr => revN_lt _ _ _ _ hi hr
  have HRV : Hid (∀ i, i < 4 * x.n → revAt x.rc.h x.rc.t x.rc.ld0 x.rc.zs i = (decide (x.rc.zs.getD i 0 / 13 ≠ ledAt x.rc.zs i) && laterAt x.rc.h x.rc.zs i (ledAt x.rc.zs i) (holdV x.rc.h (x.rc.zs.getD i 0)) (4 * x.n - i))) := fun i hi => made_rev x hi
  have hh64 := Lib.hid (made_w64 x)
  clear hmv
  obtain ⟨L, hL⟩ : ∃ L, L = 4 * x.n := ⟨_, rfl⟩
  have hL24 : L ≤ 24 := by omega
  have hL0 : 0 < L := by omega
  rw [← hL] at hok hz how hR hBr hzB HF HMV HZ HLEN hN24 HAT HNL HRV ⊢
  clear hL
  have hlc := hok.lc
  generalize revN x.rc.h x.rc.t x.rc.ld0 x.rc.zs = N at *
  generalize revAt x.rc.h x.rc.t x.rc.ld0 x.rc.zs = rv at *
  generalize flatF x.rc.h x.rc.t x.rc.ld0 x.rc.zs L = l at *
  clear hok hn
  go_wp2_with fail
  refine (HF.out _ hBr).mono ?_
  rintro e w3 ⟨v, rfl, hoV, hb3⟩
  obtain ⟨al, cl, rfl, hne⟩ := hoV.slice
  have HNE := Lib.hid hne
  clear hne
  have hR3 := hR.below (by simp) hb3
  have hBr3 := hBr.trans (hb3.mono (by simp))
  have HZ3 := Lib.hid (hzB _ hBr3)
  have hB3 := hB2.trans (hBr3.mono hB2.size)
  have r6 := hR3.cell 6
  simp only [List.getElem?_toArray, List.getElem?_cons_zero, List.getElem?_cons_succ] at r6
  have hll := HLEN.out
  obtain ⟨M, hM⟩ : ∃ M, M = l.length := ⟨_, rfl⟩
  rw [← hM] at hll ⊢
  have HM := Lib.hid hM
  have HML := Lib.hid hll
  have hM24 : M ≤ 24 := by omega
  clear hM hll HLEN hN24 hR hBr hb3 how hz hzB hab hB2 HF
  go_wp2_with fail
  clear r6
  go_loopg [6, 31] L (fun gk n i wr => ∃ k : Nat, gk = L - k ∧ k ≤ L ∧ i = .int .i64 (k : Int) ∧ n = .int .i64 (N k : Int) ∧ N k ≤ k ∧ Below w3.heap.size w3 wr)
  case atStart => exact ⟨0, by omega, by omega, rfl, by rw [HN0.out]; rfl, by rw [HN0.out]; exact Nat.le_refl _, Below.refl _ _⟩
  case round =>
    obtain ⟨k, rfl, hk, rfl, rfl, hNk, hb⟩ := hrel
    obtain ⟨wo, rfl⟩ : ∃ wo : World, wo = wr := ⟨_, rfl⟩
    by_cases hlt : k < L
    · have hz := HZ3.out.1.below (Nat.le_refl _) hb
      obtain ⟨b, off, hadd, hbb, hcs⟩ := hz.at (by omega)
      have hck := hcs k hlt
      have hcl := hcs (k / 4 * 4) (by omega)
      have hby := hz.byte k
      have hbl := hz.byte (k / 4 * 4)
      have hRr := hR3.below hR3.lt hb
      have r0 := hRr.cell 0
      have r1 := hRr.cell 1
      have r2 := hRr.cell 2
      have r3 := hRr.cell 3
      have r6 := hRr.cell 6
      simp only [List.getElem?_toArray, List.getElem?_cons_zero, List.getElem?_cons_succ] at r0 r1 r2 r3 r6
      subst hadd
      have HRVk := Lib.hid (HRV.out k hlt)
      have HATk := Lib.hid (HAT.out k hlt)
      have HLED := Lib.hid (show ledAt x.rc.zs k = x.rc.zs.getD (k / 4 * 4) 0 / 13 by unfold ledAt; rw [show k - k % 4 = k / 4 * 4 by omega])
      clear hcs
      generalize hcE : x.rc.zs.getD k 0 = c at *
      generalize hdE : x.rc.zs.getD (k / 4 * 4) 0 = d0 at *
      generalize hlE : ledAt x.rc.zs k = ld at *
      generalize hhE : holdV x.rc.h c = hd at *
      have hix : ((k : Int) / 4 * 4).toNat = k / 4 * 4 := by omega
      have hlI : (d0 : Int) / 13 = (ld : Int) := by have := HLED.out; omega
      have HC := Lib.hid hcE
      have HD := Lib.hid hdE
      have HL := Lib.hid hlE
      have HH := Lib.hid hhE
      clear hcE hdE hlE hhE
      by_cases hsame : c / 13 = ld
      · have hsI : ((c : Int) / 13 == (ld : Int)) = true := by rw [beq_iff_eq]; omega
        have HNX := Lib.hid (show N (k + 1) = N k by rw [HNS.out k, HRVk.out]; simp [hsame])
        clear hsame
        go_wp2
        go_roundg (L - (k + 1))
        case rel => exact ⟨k + 1, rfl, by omega, by go_num, by rw [HNX.out], by rw [HNX.out]; omega, hb⟩
        case measure => omega
      · have hsI : ((c : Int) / 13 == (ld : Int)) = false := by rw [beq_eq_false_iff_ne]; omega
        have HSN := Lib.hid hsame
        have hhold := law_holder x.rc.h c
        rw [HH.out] at hhold
        have hh4 : hd ≤ 4 := by rw [← HH.out]; exact holdV_le _ _
        have HHO := Lib.hid hhold
        clear hsame hhold
        go_wp2_with fail
        refine (HHO.out wo hh64.out).mono ?_
        rintro e w4 ⟨rfl, hb4⟩
        clear r0 r1 r2 r3 r6 hck hcl hRr hz
        have hbo := hb.trans (hb4.mono hb.size)
        have hz := HZ3.out.1.below (Nat.le_refl _) hbo
        have hRr := hR3.below hR3.lt hbo
        have r6 := hRr.cell 6
        simp only [List.getElem?_toArray, List.getElem?_cons_zero, List.getElem?_cons_succ] at r6
        obtain ⟨a', hcut, hbc, hac⟩ := cut_run (some ⟨b, off, none⟩) L cap k x.rc.zs w4 (by omega) hlc hz
        have HBO := Lib.hid hbo
        clear hbo hb4
        go_wp2_with fail
        clear r6
        go_loopg [10, 57] (L - k) (fun gj lt i wr => ∃ j : Nat, gj = L - k - j ∧ j ≤ L - k ∧ i = .int .i64 (j : Int) ∧ lt = .bool (laterAt x.rc.h x.rc.zs k ld hd j) ∧ Below w4.heap.size w4 wr)
        case atStart => exact ⟨0, by omega, by omega, rfl, rfl, Below.refl _ _⟩
        case round =>
          obtain ⟨j, rfl, hj, rfl, rfl, hbi⟩ := hrel
          obtain ⟨wi, rfl⟩ : ∃ wi : World, wi = wr := ⟨_, rfl⟩
          have hRi := hRr.below hRr.lt hbi
          by_cases hjl : j < L - k
          · have hzi := hbc.below (Nat.le_refl _) hbi
            obtain ⟨b1, o1, had1, hbb1, hcs1⟩ := hzi.at (by omega)
            have hcj := hcs1 j hjl
            rw [getD_drop] at hcj
            have hbyj := hz.byte (k + j)
            have r0 := hRi.cell 0
            have r1 := hRi.cell 1
            have r2 := hRi.cell 2
            have r3 := hRi.cell 3
            simp only [List.getElem?_toArray, List.getElem?_cons_zero, List.getElem?_cons_succ] at r0 r1 r2 r3
            subst had1
            have HLT := Lib.hid (show laterAt x.rc.h x.rc.zs k ld hd (j + 1) = (laterAt x.rc.h x.rc.zs k ld hd j || (decide (x.rc.zs.getD (k + j) 0 / 13 = ld) && decide (holdV x.rc.h (x.rc.zs.getD (k + j) 0) = hd))) from rfl)
            clear hcs1
            generalize x.rc.zs.getD (k + j) 0 = y at *
            generalize hlt' : laterAt x.rc.h x.rc.zs k ld hd j = lt at *
            clear hlt'
            cases lt
            · by_cases hs : y / 13 = ld
              · have hsJ : ((y : Int) / 13 == (ld : Int)) = true := by rw [beq_iff_eq]; omega
                have HS := Lib.hid hs
                have hho := law_holder x.rc.h y
                clear hs
                generalize holdV x.rc.h y = hy at *
                have HHI := Lib.hid hho
                clear hho
                by_cases hq : hy = hd
                · have hqI : ((hy : Int) == (hd : Int)) = true := by rw [beq_iff_eq]; omega
                  have HQ := Lib.hid hq
                  clear hq
                  go_wp2_with (go_at_call 22; refine (HHI.out wi hh64.out).mono ?_; rintro e w5 ⟨rfl, hb5⟩)
                  go_roundg (L - k - (j + 1))
                  case rel => exact ⟨j + 1, rfl, by omega, by go_num, by rw [HLT.out]; simp [HS.out, HQ.out], hbi.trans (hb5.mono hbi.size)⟩
                  case measure => omega
                · have hqI : ((hy : Int) == (hd : Int)) = false := by rw [beq_eq_false_iff_ne]; omega
                  have HQ := Lib.hid hq
                  clear hq
                  go_wp2_with (go_at_call 22; refine (HHI.out wi hh64.out).mono ?_; rintro e w5 ⟨rfl, hb5⟩)
                  go_roundg (L - k - (j + 1))
                  case rel => exact ⟨j + 1, rfl, by omega, by go_num, by rw [HLT.out]; simp [HQ.out], hbi.trans (hb5.mono hbi.size)⟩
                  case measure => omega
              · have hsJ : ((y : Int) / 13 == (ld : Int)) = false := by rw [beq_eq_false_iff_ne]; omega
                have HS := Lib.hid hs
                clear hs
                go_wp2
                go_roundg (L - k - (j + 1))
                case rel => exact ⟨j + 1, rfl, by omega, by go_num, by rw [HLT.out]; simp [HS.out], hbi⟩
                case measure => omega
            · go_wp2
              go_roundg (L - k - (j + 1))
              case rel => exact ⟨j + 1, rfl, by omega, by go_num, by rw [HLT.out]; simp, hbi⟩
              case measure => omega
          · have hje : j = L - k := by omega
            have HLA := Lib.hid (show rv k = laterAt x.rc.h x.rc.zs k ld hd j by rw [HRVk.out, hje]; simp [HSN.out])
            clear hje
            generalize laterAt x.rc.h x.rc.zs k ld hd j = lt at *
            have HBI := Lib.hid (HBO.out.trans (hbi.mono HBO.out.size))
            have r6 := hRi.cell 6
            simp only [List.getElem?_toArray, List.getElem?_cons_zero, List.getElem?_cons_succ] at r6
            cases lt
            · have HNX := Lib.hid (show N (k + 1) = N k by rw [HNS.out k, HLA.out]; simp)
              go_wp2
              go_roundg (L - (k + 1))
              case rel => exact ⟨k + 1, rfl, by omega, by go_num, by rw [HNX.out], by rw [HNX.out]; omega, HBI.out⟩
              case measure => omega
            · have HNX := Lib.hid (show N (k + 1) = N k + 1 by rw [HNS.out k, HLA.out]; simp)
              have hNM : N k < M := by rw [HML.out]; exact HNL.out k hlt HLA.out
              obtain ⟨g, hg⟩ := HNE.out (by intro e; rw [HM.out, e] at hNM; simp at hNM)
              subst hg
              have HATr := HATk.out HLA.out
              obtain ⟨est, hest⟩ : ∃ est, est = decide (k / 4 < L / 4 - 1) := ⟨_, rfl⟩
              rw [← hest] at HATr
              have hesI : decide ((k : Int) / 4 < (L : Int) / 4 - 1) = est := by rw [hest, decide_eq_decide]; omega
              have hoi := ((hoV.below HBI.out).alloc (.cells #[.int .i64 ((k : Int) / 4), .int .u8 (hd : Int), .int .u8 (ld : Int), .int .u8 (c : Int), .bool est] 50))
              have hWn := Row.new wi 50 #[.int .i64 ((k : Int) / 4), .int .u8 (hd : Int), .int .u8 (ld : Int), .int .u8 (c : Int), .bool est]
              obtain ⟨c0, c1, c2, c3, c4⟩ := ownV_cells hoi (N k) HATr
              dsimp only at c0 c1 c2 c3 c4
              rw [show ((k / 4 : Nat) : Int) = (k : Int) / 4 by omega] at c0
              have d0 := hWn.cell 0
              have d1 := hWn.cell 1
              have d2 := hWn.cell 2
              have d3 := hWn.cell 3
              have d4 := hWn.cell 4
              simp only [List.getElem?_toArray, List.getElem?_cons_zero, List.getElem?_cons_succ] at d0 d1 d2 d3 d4
              have rc0 := fun dd os => cell_regrown c0 dd os
              have rc1 := fun dd os => cell_regrown c1 dd os
              have rc2 := fun dd os => cell_regrown c2 dd os
              have rc3 := fun dd os => cell_regrown c3 dd os
              have rc4 := fun dd os => cell_regrown c4 dd os
              have rd0 := fun dd os => cell_regrown d0 dd os
              have rd1 := fun dd os => cell_regrown d1 dd os
              have rd2 := fun dd os => cell_regrown d2 dd os
              have rd3 := fun dd os => cell_regrown d3 dd os
              have rd4 := fun dd os => cell_regrown d4 dd os
              have hszi := HBI.out.size
              have hb60 := HBI.out.alloc hszi (.cells #[.int .i64 ((k : Int) / 4), .int .u8 (hd : Int), .int .u8 (ld : Int), .int .u8 (c : Int), .bool est] 50)
              clear hest
              go_wp2
              generalize wi.alloc (.cells #[.int .i64 ((k : Int) / 4), .int .u8 (hd : Int), .int .u8 (ld : Int), .int .u8 (c : Int), .bool est] 50) = w6 at *
              refine wp_region_quiet_below (by kernel_rfl) (by kernel_rfl) ?_
              repeat (quiet_step (fail))
              refine wpQuiet_nil ?_
              rintro _ ⟨p, rfl⟩
              clear rc0 rc1 rc2 rc3 rc4 rd0 rd1 rd2 rd3 rd4
              have hb6 := below_regrown w6 p.d p.os
              generalize grow (redrawn w6 p.d) p.os = w7 at *
              have hb7 := hb60.trans (hb6.mono hb60.size)
              go_wp2
              go_roundg (L - (k + 1))
              case rel => exact ⟨k + 1, rfl, by omega, by go_num, by rw [HNX.out]; go_num, by rw [HNX.out]; omega, hb7⟩
              case measure => omega
    · have hke : k = L := by omega
      have hRr := hR3.below hR3.lt hb
      have r0 := hRr.cell 0
      have r1 := hRr.cell 1
      have r2 := hRr.cell 2
      have r3 := hRr.cell 3
      have r4 := hRr.cell 4
      have r5 := hRr.cell 5
      have r6 := hRr.cell 6
      simp only [List.getElem?_toArray, List.getElem?_cons_zero, List.getElem?_cons_succ] at r0 r1 r2 r3 r4 r5 r6
      have hNM : N k = M := by rw [HML.out, hke]
      have HZk := HZ.out
      have HM0 : M = 0 → A = 0 ∧ B = 0 := fun h => HZk (by rw [← HML.out]; exact h)
      have HB := Lib.hid (hBr3.trans (hb.mono hBr3.size))
      have HB2 := Lib.hid (hB3.trans (hb.mono hB3.size))
      clear hke HZk
      rw [hNM]
      clear hNM
      by_cases hM0 : M = 0
      · obtain ⟨rfl, rfl⟩ := HM0 hM0
        clear HM0
        subst hM0
        go_wp2_with fail
        refine (HMV.out _ HB.out).mono ?_
        rintro e w9 ⟨rfl, hb9⟩
        go_wp2
        go_ret
        exact ⟨rfl, HB2.out.trans (hb9.mono HB2.out.size)⟩
      · have hMp : 0 < M := by omega
        clear HM0 hM0
        go_wp2_with fail
        refine (HMV.out _ HB.out).mono ?_
        rintro e w9 ⟨rfl, hb9⟩
        go_wp2
        go_ret
        exact ⟨rfl, HB2.out.trans (hb9.mono HB2.out.size)⟩
end Go.Proofs.Ytdlnilebnobllaa
