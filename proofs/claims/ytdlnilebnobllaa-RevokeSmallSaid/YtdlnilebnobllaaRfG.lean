/- The reference of chapter 13 over this seat's program: side. -/
import Derived.Test.YtdlnilebnobllaaMRfe
import Derived.Deep.Cut
import Derived.BigQuiet
import Derived.Deep.QuietTactic
namespace Go.Proofs.Ytdlnilebnobllaa
open Go.RowKit Go.Shelf Go.Sort

/-- a slice that owns revokes of the reference -/
abbrev OwnR (w : World) (base : Nat) (v : Value) (l : List Rvk) : Prop := Owns Rvk.cells 5 69 w base v l
theorem ownR_cells {w : World} {base g n cap : Nat} {l : List Rvk} (h : OwnR w base (.slice (some ⟨g, 0, none⟩) n cap) l) (k : Nat) {x : Rvk} (hx : l[k]? = some x) :
    w.cell? ⟨g, k * 5, none⟩ = some (.int .i64 (x.trick : Int)) ∧ w.cell? ⟨g, k * 5 + 1, none⟩ = some (.int .u8 (x.seat : Int)) ∧ w.cell? ⟨g, k * 5 + 2, none⟩ = some (.int .u8 (x.suit : Int)) ∧
    w.cell? ⟨g, k * 5 + 3, none⟩ = some (.int .u8 (x.card : Int)) ∧ w.cell? ⟨g, k * 5 + 4, none⟩ = some (.bool x.est) :=
  ⟨h.cell k 0 (by omega) hx, h.cell k 1 (by omega) hx, h.cell k 2 (by omega) hx, h.cell k 3 (by omega) hx, h.cell k 4 (by omega) hx⟩
/-- at the head of a round of the second loop of side -/
def SdLoop (d : Nat) (ws : List Nat) (who : Nat) (l : List Rvk) (w : World) (gk : Nat) (sum first i : Value) (wr : World) : Prop :=
  ∃ k : Nat, gk = l.length - k ∧ k ≤ l.length ∧ i = .int .i64 (k : Int) ∧ sum = .int .i64 ((sdTo d ws who l k).1 : Int) ∧ first = .int .i64 (sdTo d ws who l k).2 ∧ Below w.heap.size w wr
set_option maxHeartbeats 2000000 in
set_option maxRecDepth 100000 in
theorem rf_side (r : Rc) (a : Option Addr) (len cap : Nat) (l : List Rvk) (vl : Value) (bl : Nat) (ws : List Nat) (aw : Option Addr) (lw cw who : Nat) (w : World) (hd3 : r.d ≤ 3) (how : OwnR w bl vl l) (hzw : Byt w aw lw ws)
    (h60 : l.length ≤ 60000) (hw60 : lw ≤ 60000) (ht : ∀ v ∈ l, v.est = true → v.trick < lw) :
    Calls Try.prog 45 #[r.v a len cap, vl, .slice aw lw cw, .int .u8 (who : Int)] w fun e w' => e = .returned (.int .i64 (sideR r.d l ws who : Int)) ∧ Below w.heap.size w w' := by
  obtain ⟨al, cl, rfl, hne⟩ := Owns.slice how
  have HNE := Lib.hid hne
  have HT := Lib.hid ht
  obtain ⟨M, hM⟩ : ∃ M, M = l.length := ⟨_, rfl⟩
  have HM := Lib.hid hM
  rw [← hM]
  have hM60 : M ≤ 60000 := by omega
  clear hne ht hM
  have HOW := Lib.hid how
  have hB0 := (Below.refl w.heap.size w).alloc (Nat.le_refl _) (.cells (r.cells a len cap) 57)
  have hR0 := Row.new w 57 (r.cells a len cap)
  have HSR := Lib.hid (show sideR r.d l ws who = if othR l who l.length then 0 else if 0 ≤ (sdTo r.d ws who l l.length).2 then min (sdTo r.d ws who l l.length).1 (wonV ws who (sdTo r.d ws who l l.length).2.toNat) else (sdTo r.d ws who l l.length).1 from rfl)
  rw [← HM.out] at HSR
  generalize sideR r.d l ws who = SR at *
  go_enter Try.func45, Try.ntmps45
  go_wp2_with fail
  generalize w.alloc (.cells (r.cells a len cap) 57) = w0 at *
  go_loopg [11] M (fun gk i wr => ∃ k : Nat, gk = M - k ∧ k ≤ M ∧ i = .int .i64 (k : Int) ∧ othR l who k = false ∧ wr = w0)
  case atStart => exact ⟨0, by omega, by omega, rfl, rfl, rfl⟩
  case round =>
    obtain ⟨k, rfl, hk, rfl, hoth, rfl⟩ := hrel
    have HOT := Lib.hid hoth
    clear hoth
    by_cases hlt : k < M
    · have hkl : k < l.length := by rw [← HM.out]; exact hlt
      obtain ⟨g, hg⟩ := HNE.out (by intro e; rw [e] at hkl; simp at hkl)
      subst hg
      obtain ⟨c0, c1, c2, c3, c4⟩ := ownR_cells ((HOW.out).below hB0) k (List.getElem?_eq_getElem hkl)
      have HOS := Lib.hid (othR_succ l who k hkl)
      have HOA := Lib.hid (fun (h : othR l who (k + 1) = true) => (othR_mono l who (show k + 1 ≤ M by omega) h : othR l who M = true))
      generalize l[k] = x at *
      cases he : x.est
      · have HE := Lib.hid he
        rw [he] at c4
        clear he
        go_wp2
        go_roundg (M - (k + 1))
        case rel => exact ⟨k + 1, rfl, by omega, by go_num, by rw [HOS.out, HOT.out, HE.out]; rfl, rfl⟩
        case measure => omega
      · have HE := Lib.hid he
        rw [he] at c4
        clear he
        by_cases hp : x.seat % 2 = who
        · have hpI : ((x.seat : Int) % 2 != (who : Int)) = false := by rw [bne_eq_false_iff_eq]; omega
          have HP := Lib.hid hp
          clear hp
          go_wp2
          go_roundg (M - (k + 1))
          case rel => exact ⟨k + 1, rfl, by omega, by go_num, by rw [HOS.out, HOT.out, HE.out]; simp [HP.out], rfl⟩
          case measure => omega
        · have hpI : ((x.seat : Int) % 2 != (who : Int)) = true := by rw [bne_iff_ne]; omega
          have HZ := Lib.hid (show SR = 0 by rw [HSR.out, HOA.out (by rw [HOS.out, HE.out]; simp [hp])]; rfl)
          clear hp
          go_wp2
          go_ret
          exact ⟨by rw [HZ.out]; rfl, hB0⟩
    · have hke : M = k := by omega
      subst hke
      have HSR2 := Lib.hid (show SR = if 0 ≤ (sdTo r.d ws who l M).2 then min (sdTo r.d ws who l M).1 (wonV ws who (sdTo r.d ws who l M).2.toNat) else (sdTo r.d ws who l M).1 by rw [HSR.out, HOT.out]; rfl)
      clear HSR HOT hk hlt
      go_wp2_with fail
      obtain ⟨wq, rfl⟩ : ∃ wq : World, wq = wr := ⟨_, rfl⟩
      have hq0 := Below.refl wq.heap.size wq
      go_loopg [9, 10, 12] M (fun gk sum first i wr => ∃ n : Nat, gk = M - n ∧ n ≤ M ∧ i = .int .i64 (n : Int) ∧ sum = .int .i64 ((sdTo r.d ws who l n).1 : Int) ∧ first = .int .i64 (sdTo r.d ws who l n).2 ∧ Below wq.heap.size wq wr)
      case atStart => exact ⟨0, by omega, by omega, rfl, rfl, rfl, hq0⟩
      case round =>
        obtain ⟨k, rfl, hk, rfl, rfl, rfl, hb⟩ := hrel
        have hsl := sdTo_le r.d ws who l k (by rw [← HM.out]; exact hk)
        have hfr := sdTo_first r.d ws who l k
        have hF1 : -1 ≤ (sdTo r.d ws who l k).2 ∧ (sdTo r.d ws who l k).2 < 60001 := by
          rcases hfr with h | ⟨v, hv, he, h⟩
          · omega
          · have := HT.out v hv he; omega
        have hS0 : (sdTo r.d ws who l k).1 ≤ 120000 := by omega
        have hBw := hB0.trans (hb.mono hB0.size)
        clear hfr hsl
        by_cases hlt : k < M
        · have hkl : k < l.length := by rw [← HM.out]; exact hlt
          obtain ⟨g, hg⟩ := HNE.out (by intro e; rw [e] at hkl; simp at hkl)
          subst hg
          obtain ⟨c0, c1, c2, c3, c4⟩ := ownR_cells ((HOW.out).below hBw) k (List.getElem?_eq_getElem hkl)
          have hRr := hR0.below hR0.lt hb
          have r5 := hRr.cell 5
          simp only [List.getElem?_toArray, List.getElem?_cons_zero, List.getElem?_cons_succ] at r5
          have hsz := hb.size
          have hRl := hRr.lt
          have HST0 := Lib.hid (sdTo_succ r.d ws who l hkl)
          have HTX := Lib.hid (HT.out l[k] (List.getElem_mem _))
          have HBA := Lib.hid (hb.alloc hsz (.cells #[.int .i64 (l[k].trick : Int), .int .u8 (l[k].seat : Int), .int .u8 (l[k].suit : Int), .int .u8 (l[k].card : Int), .bool l[k].est] 69))
          have hgl1 := ((HOW.out.below hBw).row (g := g) rfl).2.1
          generalize l[k] = x at *
          unfold sdStep at HST0
          generalize sdTo r.d ws who l k = s at *
          obtain ⟨S, F⟩ := s
          dsimp only at hF1 hS0 HST0 ⊢
          cases he : x.est
          · have HE := Lib.hid (show sdTo r.d ws who l (k + 1) = (S, F) by rw [HST0.out, if_pos (.inl he)])
            rw [he] at c4 HBA
            clear he
            go_wp2
            go_roundg (M - (k + 1))
            case rel => exact ⟨k + 1, rfl, by omega, by go_num, by rw [HE.out], by rw [HE.out], HBA.out⟩
            case measure => omega
          · have hxt := HTX.out he
            by_cases hdm : x.seat = (r.d + 2) % 4
            · have HE := Lib.hid (show sdTo r.d ws who l (k + 1) = (S, F) by rw [HST0.out, if_pos (.inr hdm)])
              have hdB : ((x.seat : Int) == ((r.d : Int) + 2) % 4) = true := by rw [beq_iff_eq]; omega
              rw [he] at c4 HBA
              clear he hdm
              go_wp2
              go_roundg (M - (k + 1))
              case rel => exact ⟨k + 1, rfl, by omega, by go_num, by rw [HE.out], by rw [HE.out], HBA.out⟩
              case measure => omega
            · have hdB : ((x.seat : Int) == ((r.d : Int) + 2) % 4) = false := by rw [beq_eq_false_iff_ne]; omega
              have HE := Lib.hid (show sdTo r.d ws who l (k + 1) = (if agR l x k then S else S + mvR ws who x, if F < 0 then (x.trick : Int) else F) by rw [HST0.out, if_neg (by rw [he]; simp [hdm])])
              rw [he] at c4 HBA
              clear he hdm
              have hBx := HBA.out
              have hBx0 := hBw.alloc hBw.size (.cells #[.int .i64 (x.trick : Int), .int .u8 (x.seat : Int), .int .u8 (x.suit : Int), .int .u8 (x.card : Int), .bool true] 69)
              have hX := Row.new wr 69 #[.int .i64 (x.trick : Int), .int .u8 (x.seat : Int), .int .u8 (x.suit : Int), .int .u8 (x.card : Int), .bool true]
              clear HBA HST0 HTX
              by_cases hF : F < 0
              · have hFB : decide (F < 0) = true := by rw [decide_eq_true_eq]; exact hF
                rw [if_pos hF] at HE
                have HSD := Lib.hid (fun (j : Nat) (hj : j = k) => (show sdTo r.d ws who l (k + 1) = (if agR l x j then S else S + mvR ws who x, (x.trick : Int)) by rw [hj]; exact HE.out))
                clear HE
                -- the first trick is fr: from here the search for an elder one, and the sum
                go_wp2_with fail
                generalize wr.alloc (.cells #[.int .i64 (x.trick : Int), .int .u8 (x.seat : Int), .int .u8 (x.suit : Int), .int .u8 (x.card : Int), .bool true] 69) = wx at *
                have hb0 := Below.refl wx.heap.size wx
                go_loopg [14, 15] k (fun gj ag i wr => ∃ j : Nat, gj = k - j ∧ j ≤ k ∧ i = .int .i64 (j : Int) ∧ ag = .bool (agR l x j) ∧ Below wx.heap.size wx wr)
                case atStart => exact ⟨0, by omega, by omega, rfl, rfl, hb0⟩
                case round =>
                  obtain ⟨j, rfl, hj, rfl, rfl, hbj⟩ := hrel
                  obtain ⟨wi, rfl⟩ : ∃ wi : World, wi = wr := ⟨_, rfl⟩
                  have hXi := hX.below hX.lt hbj
                  have x0 := hXi.cell 0
                  have x1 := hXi.cell 1
                  have x2 := hXi.cell 2
                  have x3 := hXi.cell 3
                  have x4 := hXi.cell 4
                  simp only [List.getElem?_toArray, List.getElem?_cons_zero, List.getElem?_cons_succ] at x0 x1 x2 x3 x4
                  by_cases hjl : j < k
                  · have hjl2 : j < l.length := by omega
                    have HAG := Lib.hid (agR_succ l x j hjl2)
                    obtain ⟨c0, c1, c2, c3, c4⟩ := ownR_cells ((HOW.out).below (hBx0.trans (hbj.mono hBx0.size))) j (List.getElem?_eq_getElem hjl2)
                    have hjM : j < M := by rw [HM.out]; exact hjl2
                    generalize l[j] = y at *
                    generalize agR l x j = ag at *
                    have hbjs := hbj.size
                    cases ag
                    · cases hye : y.est
                      · have HYE := Lib.hid hye
                        rw [hye] at c4
                        clear hye
                        have rc1 := fun dd os => cell_regrown c1 dd os
                        have rc2 := fun dd os => cell_regrown c2 dd os
                        have rc3 := fun dd os => cell_regrown c3 dd os
                        have rc4 := fun dd os => cell_regrown c4 dd os
                        have rx0 := fun dd os => cell_regrown x0 dd os
                        have rx1 := fun dd os => cell_regrown x1 dd os
                        have rx2 := fun dd os => cell_regrown x2 dd os
                        have rx3 := fun dd os => cell_regrown x3 dd os
                        have rx4 := fun dd os => cell_regrown x4 dd os
                        go_wp2
                        refine wp_region_quiet_below (by kernel_rfl) (by kernel_rfl) ?_
                        repeat (first | go_big_quiet_step (fail) | quiet_step (fail))
                        refine wpQuiet_nil ?_
                        rintro _ ⟨p, rfl⟩
                        clear rc1 rc2 rc3 rc4 rx0 rx1 rx2 rx3 rx4
                        have hb9 := below_regrown wi p.d p.os
                        generalize grow (redrawn wi p.d) p.os = w9 at *
                        go_wp2
                        go_roundg (k - (j + 1))
                        case rel => exact ⟨j + 1, rfl, by omega, by go_num, by rw [HAG.out, HYE.out]; rfl, hbj.trans (hb9.mono hbjs)⟩
                        case measure => omega
                      · have HYE := Lib.hid hye
                        rw [hye] at c4
                        clear hye
                        by_cases hq1 : y.seat = x.seat
                        · have hqB : ((y.seat : Int) == (x.seat : Int)) = true := by rw [beq_iff_eq]; omega
                          have HQ1 := Lib.hid hq1
                          clear hq1
                          by_cases hq2 : y.suit = x.suit
                          · have hqC : ((y.suit : Int) == (x.suit : Int)) = true := by rw [beq_iff_eq]; omega
                            have HQ2 := Lib.hid hq2
                            clear hq2
                            have rc1 := fun dd os => cell_regrown c1 dd os
                            have rc2 := fun dd os => cell_regrown c2 dd os
                            have rc3 := fun dd os => cell_regrown c3 dd os
                            have rc4 := fun dd os => cell_regrown c4 dd os
                            have rx0 := fun dd os => cell_regrown x0 dd os
                            have rx1 := fun dd os => cell_regrown x1 dd os
                            have rx2 := fun dd os => cell_regrown x2 dd os
                            have rx3 := fun dd os => cell_regrown x3 dd os
                            have rx4 := fun dd os => cell_regrown x4 dd os
                            go_wp2
                            refine wp_region_quiet_below (by kernel_rfl) (by kernel_rfl) ?_
                            repeat (first | go_big_quiet_step (fail) | quiet_step (fail))
                            refine wpQuiet_nil ?_
                            rintro _ ⟨p, rfl⟩
                            clear rc1 rc2 rc3 rc4 rx0 rx1 rx2 rx3 rx4
                            have hb9 := below_regrown wi p.d p.os
                            generalize grow (redrawn wi p.d) p.os = w9 at *
                            go_wp2
                            go_roundg (k - (j + 1))
                            case rel => exact ⟨j + 1, rfl, by omega, by go_num, by rw [HAG.out, HYE.out, HQ1.out, HQ2.out]; simp, hbj.trans (hb9.mono hbjs)⟩
                            case measure => omega
                          · have hqC : ((y.suit : Int) == (x.suit : Int)) = false := by rw [beq_eq_false_iff_ne]; omega
                            have HQ2 := Lib.hid hq2
                            clear hq2
                            have rc1 := fun dd os => cell_regrown c1 dd os
                            have rc2 := fun dd os => cell_regrown c2 dd os
                            have rc3 := fun dd os => cell_regrown c3 dd os
                            have rc4 := fun dd os => cell_regrown c4 dd os
                            have rx0 := fun dd os => cell_regrown x0 dd os
                            have rx1 := fun dd os => cell_regrown x1 dd os
                            have rx2 := fun dd os => cell_regrown x2 dd os
                            have rx3 := fun dd os => cell_regrown x3 dd os
                            have rx4 := fun dd os => cell_regrown x4 dd os
                            go_wp2
                            refine wp_region_quiet_below (by kernel_rfl) (by kernel_rfl) ?_
                            repeat (first | go_big_quiet_step (fail) | quiet_step (fail))
                            refine wpQuiet_nil ?_
                            rintro _ ⟨p, rfl⟩
                            clear rc1 rc2 rc3 rc4 rx0 rx1 rx2 rx3 rx4
                            have hb9 := below_regrown wi p.d p.os
                            generalize grow (redrawn wi p.d) p.os = w9 at *
                            go_wp2
                            go_roundg (k - (j + 1))
                            case rel => exact ⟨j + 1, rfl, by omega, by go_num, by rw [HAG.out, HYE.out]; simp [HQ2.out], hbj.trans (hb9.mono hbjs)⟩
                            case measure => omega
                        · have hqB : ((y.seat : Int) == (x.seat : Int)) = false := by rw [beq_eq_false_iff_ne]; omega
                          have HQ1 := Lib.hid hq1
                          clear hq1
                          have rc1 := fun dd os => cell_regrown c1 dd os
                          have rc2 := fun dd os => cell_regrown c2 dd os
                          have rc3 := fun dd os => cell_regrown c3 dd os
                          have rc4 := fun dd os => cell_regrown c4 dd os
                          have rx0 := fun dd os => cell_regrown x0 dd os
                          have rx1 := fun dd os => cell_regrown x1 dd os
                          have rx2 := fun dd os => cell_regrown x2 dd os
                          have rx3 := fun dd os => cell_regrown x3 dd os
                          have rx4 := fun dd os => cell_regrown x4 dd os
                          go_wp2
                          refine wp_region_quiet_below (by kernel_rfl) (by kernel_rfl) ?_
                          repeat (first | go_big_quiet_step (fail) | quiet_step (fail))
                          refine wpQuiet_nil ?_
                          rintro _ ⟨p, rfl⟩
                          clear rc1 rc2 rc3 rc4 rx0 rx1 rx2 rx3 rx4
                          have hb9 := below_regrown wi p.d p.os
                          generalize grow (redrawn wi p.d) p.os = w9 at *
                          go_wp2
                          go_roundg (k - (j + 1))
                          case rel => exact ⟨j + 1, rfl, by omega, by go_num, by rw [HAG.out, HYE.out]; simp [HQ1.out], hbj.trans (hb9.mono hbjs)⟩
                          case measure => omega
                    · have htok : True := trivial
                      have rx0 := fun dd os => cell_regrown x0 dd os
                      have rx1 := fun dd os => cell_regrown x1 dd os
                      have rx2 := fun dd os => cell_regrown x2 dd os
                      have rx3 := fun dd os => cell_regrown x3 dd os
                      have rx4 := fun dd os => cell_regrown x4 dd os
                      go_wp2
                      refine wp_region_quiet_below (by kernel_rfl) (by kernel_rfl) ?_
                      repeat (first | go_big_quiet_step (fail) | quiet_step (fail))
                      refine wpQuiet_nil ?_
                      rintro _ ⟨p, rfl⟩
                      clear rx0 rx1 rx2 rx3 rx4
                      have hb9 := below_regrown wi p.d p.os
                      generalize grow (redrawn wi p.d) p.os = w9 at *
                      go_wp2
                      go_roundg (k - (j + 1))
                      case rel => exact ⟨j + 1, rfl, by omega, by go_num, by rw [HAG.out]; simp, hbj.trans (hb9.mono hbjs)⟩
                      case measure => omega
                  · have hje : j = k := by omega
                    have hbjs := hbj.size
                    have hBj := hBx.trans (hbj.mono hBx.size)
                    have HBJ := Lib.hid hBj
                    clear hBj
                    have HST := Lib.hid (HSD.out j hje)
                    clear hje
                    generalize agR l x j = ag at *
                    cases ag
                    · obtain ⟨b2, o2, had2, hbb2, hcs2⟩ := (hzw.below (Nat.le_refl _) (hBx0.trans (hbj.mono hBx0.size))).at (by omega)
                      have hcw := hcs2 x.trick hxt
                      have hzw2 := hzw.below (Nat.le_refl _) (hBx0.trans (hbj.mono hBx0.size))
                      subst had2
                      clear hcs2
                      have HMV : Hid (mvR ws who x = if ws.getD x.trick 0 = x.seat then (if 0 < wonV ws who (x.trick + 1) then 2 else 1) else if 0 < wonV ws who x.trick then 1 else 0) := Lib.hid rfl
                      generalize ws.getD x.trick 0 = z at *
                      have rcw := fun dd os => cell_regrown hcw dd os
                      have rx0 := fun dd os => cell_regrown x0 dd os
                      have rx1 := fun dd os => cell_regrown x1 dd os
                      have rx2 := fun dd os => cell_regrown x2 dd os
                      have rx3 := fun dd os => cell_regrown x3 dd os
                      have rx4 := fun dd os => cell_regrown x4 dd os
                      by_cases hzq : z = x.seat
                      · have hzB : ((z : Int) == (x.seat : Int)) = true := by rw [beq_iff_eq]; omega
                        obtain ⟨t1, ht1⟩ : ∃ t1, t1 = x.trick + 1 := ⟨_, rfl⟩
                        rw [← ht1] at HMV
                        have htr : (x.trick : Int) + 1 = (t1 : Int) := by omega
                        have HWN := Lib.hid (fun (wy : World) (hb : Below wi.heap.size wi wy) => rf_won ws (some ⟨b2, o2, none⟩) lw cw t1 who wy (hzw2.below (Nat.le_refl _) hb) (by omega) (by omega))
                        rw [if_pos hzq] at HMV
                        clear hzq ht1
                        generalize wonV ws who t1 = q at *
                        go_wp2
                        refine wp_region_quiet_below (by kernel_rfl) (by kernel_rfl) ?_
                        repeat (first | go_big_quiet_step (fail) | quiet_step (fail))
                        refine wpQuiet_nil ?_
                        rintro _ ⟨p, rfl⟩
                        clear rcw rx0 rx1 rx2 rx3 rx4
                        have hb9 := below_regrown wi p.d p.os
                        generalize grow (redrawn wi p.d) p.os = w9 at *
                        have hX9 := hXi.below hXi.lt hb9
                        have hB9 := HBJ.out.trans (hb9.mono HBJ.out.size)
                        clear x0 x1 x2 x3 x4
                        have x0 := hX9.cell 0
                        have x1 := hX9.cell 1
                        have x2 := hX9.cell 2
                        have x3 := hX9.cell 3
                        have x4 := hX9.cell 4
                        simp only [List.getElem?_toArray, List.getElem?_cons_zero, List.getElem?_cons_succ] at x0 x1 x2 x3 x4
                        by_cases hq0 : 0 < q
                        · have hqB : decide ((0 : Int) < (q : Int)) = true := by rw [decide_eq_true_eq]; omega
                          have hqN : decide (0 < q) = true := by rw [decide_eq_true_eq]; omega
                          rw [if_pos hq0] at HMV
                          clear hq0
                          go_wp2_with (go_at_call 46; refine (HWN.out _ hb9).mono ?_; rintro e w' ⟨rfl, rfl⟩)
                          go_roundg (M - (k + 1))
                          case rel => exact ⟨k + 1, rfl, by omega, by go_num, by rw [HST.out]; (simp [HMV.out] <;> omega), by rw [HST.out] <;> rfl, hB9⟩
                          case measure => omega
                        · have hqB : decide ((0 : Int) < (q : Int)) = false := by rw [decide_eq_false_iff_not]; omega
                          have hqN : decide (0 < q) = false := by rw [decide_eq_false_iff_not]; omega
                          rw [if_neg hq0] at HMV
                          clear hq0
                          go_wp2_with (go_at_call 46; refine (HWN.out _ hb9).mono ?_; rintro e w' ⟨rfl, rfl⟩)
                          go_roundg (M - (k + 1))
                          case rel => exact ⟨k + 1, rfl, by omega, by go_num, by rw [HST.out]; (simp [HMV.out] <;> omega), by rw [HST.out] <;> rfl, hB9⟩
                          case measure => omega
                      · have hzB : ((z : Int) == (x.seat : Int)) = false := by rw [beq_eq_false_iff_ne]; omega
                        have HWN := Lib.hid (fun (wy : World) (hb : Below wi.heap.size wi wy) => rf_won ws (some ⟨b2, o2, none⟩) lw cw x.trick who wy (hzw2.below (Nat.le_refl _) hb) (by omega) (by omega))
                        rw [if_neg hzq] at HMV
                        clear hzq
                        generalize wonV ws who x.trick = q at *
                        go_wp2
                        refine wp_region_quiet_below (by kernel_rfl) (by kernel_rfl) ?_
                        repeat (first | go_big_quiet_step (fail) | quiet_step (fail))
                        refine wpQuiet_nil ?_
                        rintro _ ⟨p, rfl⟩
                        clear rcw rx0 rx1 rx2 rx3 rx4
                        have hb9 := below_regrown wi p.d p.os
                        generalize grow (redrawn wi p.d) p.os = w9 at *
                        have hX9 := hXi.below hXi.lt hb9
                        have hB9 := HBJ.out.trans (hb9.mono HBJ.out.size)
                        clear x0 x1 x2 x3 x4
                        have x0 := hX9.cell 0
                        have x1 := hX9.cell 1
                        have x2 := hX9.cell 2
                        have x3 := hX9.cell 3
                        have x4 := hX9.cell 4
                        simp only [List.getElem?_toArray, List.getElem?_cons_zero, List.getElem?_cons_succ] at x0 x1 x2 x3 x4
                        by_cases hq0 : 0 < q
                        · have hqB : decide ((0 : Int) < (q : Int)) = true := by rw [decide_eq_true_eq]; omega
                          have hqN : decide (0 < q) = true := by rw [decide_eq_true_eq]; omega
                          rw [if_pos hq0] at HMV
                          clear hq0
                          go_wp2_with (go_at_call 46; refine (HWN.out _ hb9).mono ?_; rintro e w' ⟨rfl, rfl⟩)
                          go_roundg (M - (k + 1))
                          case rel => exact ⟨k + 1, rfl, by omega, by go_num, by rw [HST.out]; (simp [HMV.out] <;> omega), by rw [HST.out] <;> rfl, hB9⟩
                          case measure => omega
                        · have hqB : decide ((0 : Int) < (q : Int)) = false := by rw [decide_eq_false_iff_not]; omega
                          have hqN : decide (0 < q) = false := by rw [decide_eq_false_iff_not]; omega
                          rw [if_neg hq0] at HMV
                          clear hq0
                          go_wp2_with (go_at_call 46; refine (HWN.out _ hb9).mono ?_; rintro e w' ⟨rfl, rfl⟩)
                          go_roundg (M - (k + 1))
                          case rel => exact ⟨k + 1, rfl, by omega, by go_num, by rw [HST.out]; (simp [HMV.out] <;> omega), by rw [HST.out] <;> rfl, hB9⟩
                          case measure => omega
                    · go_wp2
                      go_roundg (M - (k + 1))
                      case rel => exact ⟨k + 1, rfl, by omega, by go_num, by rw [HST.out] <;> rfl, by rw [HST.out] <;> rfl, HBJ.out⟩
                      case measure => omega
              · have hFB : decide (F < 0) = false := by rw [decide_eq_false_iff_not]; exact hF
                rw [if_neg hF] at HE
                have HSD := Lib.hid (fun (j : Nat) (hj : j = k) => (show sdTo r.d ws who l (k + 1) = (if agR l x j then S else S + mvR ws who x, F) by rw [hj]; exact HE.out))
                clear HE
                -- the first trick is fr: from here the search for an elder one, and the sum
                go_wp2_with fail
                generalize wr.alloc (.cells #[.int .i64 (x.trick : Int), .int .u8 (x.seat : Int), .int .u8 (x.suit : Int), .int .u8 (x.card : Int), .bool true] 69) = wx at *
                have hb0 := Below.refl wx.heap.size wx
                go_loopg [14, 15] k (fun gj ag i wr => ∃ j : Nat, gj = k - j ∧ j ≤ k ∧ i = .int .i64 (j : Int) ∧ ag = .bool (agR l x j) ∧ Below wx.heap.size wx wr)
                case atStart => exact ⟨0, by omega, by omega, rfl, rfl, hb0⟩
                case round =>
                  obtain ⟨j, rfl, hj, rfl, rfl, hbj⟩ := hrel
                  obtain ⟨wi, rfl⟩ : ∃ wi : World, wi = wr := ⟨_, rfl⟩
                  have hXi := hX.below hX.lt hbj
                  have x0 := hXi.cell 0
                  have x1 := hXi.cell 1
                  have x2 := hXi.cell 2
                  have x3 := hXi.cell 3
                  have x4 := hXi.cell 4
                  simp only [List.getElem?_toArray, List.getElem?_cons_zero, List.getElem?_cons_succ] at x0 x1 x2 x3 x4
                  by_cases hjl : j < k
                  · have hjl2 : j < l.length := by omega
                    have HAG := Lib.hid (agR_succ l x j hjl2)
                    obtain ⟨c0, c1, c2, c3, c4⟩ := ownR_cells ((HOW.out).below (hBx0.trans (hbj.mono hBx0.size))) j (List.getElem?_eq_getElem hjl2)
                    have hjM : j < M := by rw [HM.out]; exact hjl2
                    generalize l[j] = y at *
                    generalize agR l x j = ag at *
                    have hbjs := hbj.size
                    cases ag
                    · cases hye : y.est
                      · have HYE := Lib.hid hye
                        rw [hye] at c4
                        clear hye
                        have rc1 := fun dd os => cell_regrown c1 dd os
                        have rc2 := fun dd os => cell_regrown c2 dd os
                        have rc3 := fun dd os => cell_regrown c3 dd os
                        have rc4 := fun dd os => cell_regrown c4 dd os
                        have rx0 := fun dd os => cell_regrown x0 dd os
                        have rx1 := fun dd os => cell_regrown x1 dd os
                        have rx2 := fun dd os => cell_regrown x2 dd os
                        have rx3 := fun dd os => cell_regrown x3 dd os
                        have rx4 := fun dd os => cell_regrown x4 dd os
                        go_wp2
                        refine wp_region_quiet_below (by kernel_rfl) (by kernel_rfl) ?_
                        repeat (first | go_big_quiet_step (fail) | quiet_step (fail))
                        refine wpQuiet_nil ?_
                        rintro _ ⟨p, rfl⟩
                        clear rc1 rc2 rc3 rc4 rx0 rx1 rx2 rx3 rx4
                        have hb9 := below_regrown wi p.d p.os
                        generalize grow (redrawn wi p.d) p.os = w9 at *
                        go_wp2
                        go_roundg (k - (j + 1))
                        case rel => exact ⟨j + 1, rfl, by omega, by go_num, by rw [HAG.out, HYE.out]; rfl, hbj.trans (hb9.mono hbjs)⟩
                        case measure => omega
                      · have HYE := Lib.hid hye
                        rw [hye] at c4
                        clear hye
                        by_cases hq1 : y.seat = x.seat
                        · have hqB : ((y.seat : Int) == (x.seat : Int)) = true := by rw [beq_iff_eq]; omega
                          have HQ1 := Lib.hid hq1
                          clear hq1
                          by_cases hq2 : y.suit = x.suit
                          · have hqC : ((y.suit : Int) == (x.suit : Int)) = true := by rw [beq_iff_eq]; omega
                            have HQ2 := Lib.hid hq2
                            clear hq2
                            have rc1 := fun dd os => cell_regrown c1 dd os
                            have rc2 := fun dd os => cell_regrown c2 dd os
                            have rc3 := fun dd os => cell_regrown c3 dd os
                            have rc4 := fun dd os => cell_regrown c4 dd os
                            have rx0 := fun dd os => cell_regrown x0 dd os
                            have rx1 := fun dd os => cell_regrown x1 dd os
                            have rx2 := fun dd os => cell_regrown x2 dd os
                            have rx3 := fun dd os => cell_regrown x3 dd os
                            have rx4 := fun dd os => cell_regrown x4 dd os
                            go_wp2
                            refine wp_region_quiet_below (by kernel_rfl) (by kernel_rfl) ?_
                            repeat (first | go_big_quiet_step (fail) | quiet_step (fail))
                            refine wpQuiet_nil ?_
                            rintro _ ⟨p, rfl⟩
                            clear rc1 rc2 rc3 rc4 rx0 rx1 rx2 rx3 rx4
                            have hb9 := below_regrown wi p.d p.os
                            generalize grow (redrawn wi p.d) p.os = w9 at *
                            go_wp2
                            go_roundg (k - (j + 1))
                            case rel => exact ⟨j + 1, rfl, by omega, by go_num, by rw [HAG.out, HYE.out, HQ1.out, HQ2.out]; simp, hbj.trans (hb9.mono hbjs)⟩
                            case measure => omega
                          · have hqC : ((y.suit : Int) == (x.suit : Int)) = false := by rw [beq_eq_false_iff_ne]; omega
                            have HQ2 := Lib.hid hq2
                            clear hq2
                            have rc1 := fun dd os => cell_regrown c1 dd os
                            have rc2 := fun dd os => cell_regrown c2 dd os
                            have rc3 := fun dd os => cell_regrown c3 dd os
                            have rc4 := fun dd os => cell_regrown c4 dd os
                            have rx0 := fun dd os => cell_regrown x0 dd os
                            have rx1 := fun dd os => cell_regrown x1 dd os
                            have rx2 := fun dd os => cell_regrown x2 dd os
                            have rx3 := fun dd os => cell_regrown x3 dd os
                            have rx4 := fun dd os => cell_regrown x4 dd os
                            go_wp2
                            refine wp_region_quiet_below (by kernel_rfl) (by kernel_rfl) ?_
                            repeat (first | go_big_quiet_step (fail) | quiet_step (fail))
                            refine wpQuiet_nil ?_
                            rintro _ ⟨p, rfl⟩
                            clear rc1 rc2 rc3 rc4 rx0 rx1 rx2 rx3 rx4
                            have hb9 := below_regrown wi p.d p.os
                            generalize grow (redrawn wi p.d) p.os = w9 at *
                            go_wp2
                            go_roundg (k - (j + 1))
                            case rel => exact ⟨j + 1, rfl, by omega, by go_num, by rw [HAG.out, HYE.out]; simp [HQ2.out], hbj.trans (hb9.mono hbjs)⟩
                            case measure => omega
                        · have hqB : ((y.seat : Int) == (x.seat : Int)) = false := by rw [beq_eq_false_iff_ne]; omega
                          have HQ1 := Lib.hid hq1
                          clear hq1
                          have rc1 := fun dd os => cell_regrown c1 dd os
                          have rc2 := fun dd os => cell_regrown c2 dd os
                          have rc3 := fun dd os => cell_regrown c3 dd os
                          have rc4 := fun dd os => cell_regrown c4 dd os
                          have rx0 := fun dd os => cell_regrown x0 dd os
                          have rx1 := fun dd os => cell_regrown x1 dd os
                          have rx2 := fun dd os => cell_regrown x2 dd os
                          have rx3 := fun dd os => cell_regrown x3 dd os
                          have rx4 := fun dd os => cell_regrown x4 dd os
                          go_wp2
                          refine wp_region_quiet_below (by kernel_rfl) (by kernel_rfl) ?_
                          repeat (first | go_big_quiet_step (fail) | quiet_step (fail))
                          refine wpQuiet_nil ?_
                          rintro _ ⟨p, rfl⟩
                          clear rc1 rc2 rc3 rc4 rx0 rx1 rx2 rx3 rx4
                          have hb9 := below_regrown wi p.d p.os
                          generalize grow (redrawn wi p.d) p.os = w9 at *
                          go_wp2
                          go_roundg (k - (j + 1))
                          case rel => exact ⟨j + 1, rfl, by omega, by go_num, by rw [HAG.out, HYE.out]; simp [HQ1.out], hbj.trans (hb9.mono hbjs)⟩
                          case measure => omega
                    · have htok : True := trivial
                      have rx0 := fun dd os => cell_regrown x0 dd os
                      have rx1 := fun dd os => cell_regrown x1 dd os
                      have rx2 := fun dd os => cell_regrown x2 dd os
                      have rx3 := fun dd os => cell_regrown x3 dd os
                      have rx4 := fun dd os => cell_regrown x4 dd os
                      go_wp2
                      refine wp_region_quiet_below (by kernel_rfl) (by kernel_rfl) ?_
                      repeat (first | go_big_quiet_step (fail) | quiet_step (fail))
                      refine wpQuiet_nil ?_
                      rintro _ ⟨p, rfl⟩
                      clear rx0 rx1 rx2 rx3 rx4
                      have hb9 := below_regrown wi p.d p.os
                      generalize grow (redrawn wi p.d) p.os = w9 at *
                      go_wp2
                      go_roundg (k - (j + 1))
                      case rel => exact ⟨j + 1, rfl, by omega, by go_num, by rw [HAG.out]; simp, hbj.trans (hb9.mono hbjs)⟩
                      case measure => omega
                  · have hje : j = k := by omega
                    have hbjs := hbj.size
                    have hBj := hBx.trans (hbj.mono hBx.size)
                    have HBJ := Lib.hid hBj
                    clear hBj
                    have HST := Lib.hid (HSD.out j hje)
                    clear hje
                    generalize agR l x j = ag at *
                    cases ag
                    · obtain ⟨b2, o2, had2, hbb2, hcs2⟩ := (hzw.below (Nat.le_refl _) (hBx0.trans (hbj.mono hBx0.size))).at (by omega)
                      have hcw := hcs2 x.trick hxt
                      have hzw2 := hzw.below (Nat.le_refl _) (hBx0.trans (hbj.mono hBx0.size))
                      subst had2
                      clear hcs2
                      have HMV : Hid (mvR ws who x = if ws.getD x.trick 0 = x.seat then (if 0 < wonV ws who (x.trick + 1) then 2 else 1) else if 0 < wonV ws who x.trick then 1 else 0) := Lib.hid rfl
                      generalize ws.getD x.trick 0 = z at *
                      have rcw := fun dd os => cell_regrown hcw dd os
                      have rx0 := fun dd os => cell_regrown x0 dd os
                      have rx1 := fun dd os => cell_regrown x1 dd os
                      have rx2 := fun dd os => cell_regrown x2 dd os
                      have rx3 := fun dd os => cell_regrown x3 dd os
                      have rx4 := fun dd os => cell_regrown x4 dd os
                      by_cases hzq : z = x.seat
                      · have hzB : ((z : Int) == (x.seat : Int)) = true := by rw [beq_iff_eq]; omega
                        obtain ⟨t1, ht1⟩ : ∃ t1, t1 = x.trick + 1 := ⟨_, rfl⟩
                        rw [← ht1] at HMV
                        have htr : (x.trick : Int) + 1 = (t1 : Int) := by omega
                        have HWN := Lib.hid (fun (wy : World) (hb : Below wi.heap.size wi wy) => rf_won ws (some ⟨b2, o2, none⟩) lw cw t1 who wy (hzw2.below (Nat.le_refl _) hb) (by omega) (by omega))
                        rw [if_pos hzq] at HMV
                        clear hzq ht1
                        generalize wonV ws who t1 = q at *
                        go_wp2
                        refine wp_region_quiet_below (by kernel_rfl) (by kernel_rfl) ?_
                        repeat (first | go_big_quiet_step (fail) | quiet_step (fail))
                        refine wpQuiet_nil ?_
                        rintro _ ⟨p, rfl⟩
                        clear rcw rx0 rx1 rx2 rx3 rx4
                        have hb9 := below_regrown wi p.d p.os
                        generalize grow (redrawn wi p.d) p.os = w9 at *
                        have hX9 := hXi.below hXi.lt hb9
                        have hB9 := HBJ.out.trans (hb9.mono HBJ.out.size)
                        clear x0 x1 x2 x3 x4
                        have x0 := hX9.cell 0
                        have x1 := hX9.cell 1
                        have x2 := hX9.cell 2
                        have x3 := hX9.cell 3
                        have x4 := hX9.cell 4
                        simp only [List.getElem?_toArray, List.getElem?_cons_zero, List.getElem?_cons_succ] at x0 x1 x2 x3 x4
                        by_cases hq0 : 0 < q
                        · have hqB : decide ((0 : Int) < (q : Int)) = true := by rw [decide_eq_true_eq]; omega
                          have hqN : decide (0 < q) = true := by rw [decide_eq_true_eq]; omega
                          rw [if_pos hq0] at HMV
                          clear hq0
                          go_wp2_with (go_at_call 46; refine (HWN.out _ hb9).mono ?_; rintro e w' ⟨rfl, rfl⟩)
                          go_roundg (M - (k + 1))
                          case rel => exact ⟨k + 1, rfl, by omega, by go_num, by rw [HST.out]; (simp [HMV.out] <;> omega), by rw [HST.out] <;> rfl, hB9⟩
                          case measure => omega
                        · have hqB : decide ((0 : Int) < (q : Int)) = false := by rw [decide_eq_false_iff_not]; omega
                          have hqN : decide (0 < q) = false := by rw [decide_eq_false_iff_not]; omega
                          rw [if_neg hq0] at HMV
                          clear hq0
                          go_wp2_with (go_at_call 46; refine (HWN.out _ hb9).mono ?_; rintro e w' ⟨rfl, rfl⟩)
                          go_roundg (M - (k + 1))
                          case rel => exact ⟨k + 1, rfl, by omega, by go_num, by rw [HST.out]; (simp [HMV.out] <;> omega), by rw [HST.out] <;> rfl, hB9⟩
                          case measure => omega
                      · have hzB : ((z : Int) == (x.seat : Int)) = false := by rw [beq_eq_false_iff_ne]; omega
                        have HWN := Lib.hid (fun (wy : World) (hb : Below wi.heap.size wi wy) => rf_won ws (some ⟨b2, o2, none⟩) lw cw x.trick who wy (hzw2.below (Nat.le_refl _) hb) (by omega) (by omega))
                        rw [if_neg hzq] at HMV
                        clear hzq
                        generalize wonV ws who x.trick = q at *
                        go_wp2
                        refine wp_region_quiet_below (by kernel_rfl) (by kernel_rfl) ?_
                        repeat (first | go_big_quiet_step (fail) | quiet_step (fail))
                        refine wpQuiet_nil ?_
                        rintro _ ⟨p, rfl⟩
                        clear rcw rx0 rx1 rx2 rx3 rx4
                        have hb9 := below_regrown wi p.d p.os
                        generalize grow (redrawn wi p.d) p.os = w9 at *
                        have hX9 := hXi.below hXi.lt hb9
                        have hB9 := HBJ.out.trans (hb9.mono HBJ.out.size)
                        clear x0 x1 x2 x3 x4
                        have x0 := hX9.cell 0
                        have x1 := hX9.cell 1
                        have x2 := hX9.cell 2
                        have x3 := hX9.cell 3
                        have x4 := hX9.cell 4
                        simp only [List.getElem?_toArray, List.getElem?_cons_zero, List.getElem?_cons_succ] at x0 x1 x2 x3 x4
                        by_cases hq0 : 0 < q
                        · have hqB : decide ((0 : Int) < (q : Int)) = true := by rw [decide_eq_true_eq]; omega
                          have hqN : decide (0 < q) = true := by rw [decide_eq_true_eq]; omega
                          rw [if_pos hq0] at HMV
                          clear hq0
                          go_wp2_with (go_at_call 46; refine (HWN.out _ hb9).mono ?_; rintro e w' ⟨rfl, rfl⟩)
                          go_roundg (M - (k + 1))
                          case rel => exact ⟨k + 1, rfl, by omega, by go_num, by rw [HST.out]; (simp [HMV.out] <;> omega), by rw [HST.out] <;> rfl, hB9⟩
                          case measure => omega
                        · have hqB : decide ((0 : Int) < (q : Int)) = false := by rw [decide_eq_false_iff_not]; omega
                          have hqN : decide (0 < q) = false := by rw [decide_eq_false_iff_not]; omega
                          rw [if_neg hq0] at HMV
                          clear hq0
                          go_wp2_with (go_at_call 46; refine (HWN.out _ hb9).mono ?_; rintro e w' ⟨rfl, rfl⟩)
                          go_roundg (M - (k + 1))
                          case rel => exact ⟨k + 1, rfl, by omega, by go_num, by rw [HST.out]; (simp [HMV.out] <;> omega), by rw [HST.out] <;> rfl, hB9⟩
                          case measure => omega
                    · go_wp2
                      go_roundg (M - (k + 1))
                      case rel => exact ⟨k + 1, rfl, by omega, by go_num, by rw [HST.out] <;> rfl, by rw [HST.out] <;> rfl, HBJ.out⟩
                      case measure => omega
        · have hke : M = k := by omega
          subst hke
          clear hk hlt
          generalize sdTo r.d ws who l M = s at *
          obtain ⟨S, F⟩ := s
          dsimp only at hF1 hS0 HSR2 ⊢
          by_cases hF : 0 ≤ F
          · obtain ⟨f, rfl⟩ : ∃ f : Nat, F = (f : Int) := ⟨F.toNat, by omega⟩
            rw [if_pos hF, Int.toNat_natCast] at HSR2
            have hzw2 := hzw.below (Nat.le_refl _) hBw
            have HWN := Lib.hid (rf_won ws aw lw cw f who wr hzw2 (by omega) hw60)
            have hwv := wonV_le ws who f
            have hlw := hzw.length
            have HLW := Lib.hid hlw
            have hwv2 : wonV ws who f ≤ 60000 := by omega
            clear hwv hlw
            generalize wonV ws who f = q at *
            by_cases hsq : q < S
            · have hsB : decide (q < S) = true := by rw [decide_eq_true_eq]; exact hsq
              have HZ := Lib.hid (show SR = q by rw [HSR2.out]; omega)
              clear hsq
              go_wp2_with (go_at_call 46; refine HWN.out.mono ?_; rintro e w' ⟨rfl, rfl⟩)
              go_ret
              exact ⟨by rw [HZ.out]; rfl, hBw⟩
            · have hsB : decide (q < S) = false := by rw [decide_eq_false_iff_not]; exact hsq
              have HZ := Lib.hid (show SR = S by rw [HSR2.out]; omega)
              clear hsq
              go_wp2_with (go_at_call 46; refine HWN.out.mono ?_; rintro e w' ⟨rfl, rfl⟩)
              go_ret
              exact ⟨by rw [HZ.out]; rfl, hBw⟩
          · have hFB : decide (0 ≤ F) = false := by rw [decide_eq_false_iff_not]; exact hF
            rw [if_neg hF] at HSR2
            clear hF
            go_wp2
            go_ret
            exact ⟨by rw [HSR2.out]; rfl, hBw⟩
end Go.Proofs.Ytdlnilebnobllaa
