/- finesselaw12.Made over this seat's program. -/
import Derived.Test.YtginbellakkliaaDoorPyQ
namespace Go.Proofs.YtginbellakkliaaDoor
open Go.RowKit Go.Shelf Go.Sort
attribute [local go_sem] Oper.semAt_some

set_option maxHeartbeats 1000000 in
set_option maxRecDepth 100000 in
theorem law12_made (x : Mn) (a : Option Addr) (len cap : Nat) (w : World) (hz : Byt w a len x.zs) (hn : x.n < 256) (hc : x.c < 256) :
    Calls Tryd.prog 12 #[.slice a len cap, .int .u8 (x.n : Int), .int .u8 (x.c : Int)] w fun e w' =>
      e = .returned (.tuple #[.agg #[.int .u64 (x.d 0 : Int), .int .u64 (x.d 1 : Int), .int .u64 (x.d 2 : Int), .int .u64 (x.d 3 : Int)], .agg #[.int .u8 (x.lv : Int), .int .u8 (x.dn : Int), .int .u8 (x.rk : Int), .int .u8 (x.dc : Int)]]) ∧ Below w.heap.size w w' := by
  have hel := x.each_le
  obtain ⟨M, hM⟩ : ∃ M, M = 4 * x.each := ⟨_, rfl⟩
  have hM1 : (4 * (1 + (x.n : Int) % 13)) = (M : Int) := by rw [hM]; unfold Mn.each; omega
  have hM52 : M ≤ 52 := by omega
  have HM := Lib.hid hM
  clear hM
  go_enter Tryd.func12, Tryd.ntmps12
  go_wp2_with fail
  clear hM1
  obtain ⟨wa, hwa⟩ : ∃ wa, wa = ((w.alloc (.cells #[.int .u64 0, .int .u64 0, .int .u64 0, .int .u64 0] 26)).alloc (.cells #[.int .u8 0, .int .u8 0, .int .u8 0, .int .u8 0] 28)).alloc (.cells #[.int .u64 0, .int .u64 0, .int .u64 0, .int .u64 0] 26) := ⟨_, rfl⟩
  rw [← hwa]
  have hBa : Below w.heap.size w wa := by rw [hwa]; exact (((Below.refl _ _).alloc (Nat.le_refl _) _).alloc (by simp) _).alloc (by simp; omega) _
  have hr0 : Row wa w.heap.size 26 #[.int .u64 0, .int .u64 0, .int .u64 0, .int .u64 0] := by rw [hwa]; exact ((Row.new _ _ _).alloc _).alloc _
  have hr1 : Row wa (w.heap.size + 1) 28 #[.int .u8 0, .int .u8 0, .int .u8 0, .int .u8 0] := by
    rw [hwa]; have := (Row.new (w.alloc (.cells #[.int .u64 0, .int .u64 0, .int .u64 0, .int .u64 0] 26)) 28 #[.int .u8 0, .int .u8 0, .int .u8 0, .int .u8 0]).alloc (.cells #[.int .u64 0, .int .u64 0, .int .u64 0, .int .u64 0] 26)
    rwa [World.size_alloc] at this
  have hr2 : Row wa (w.heap.size + 2) 26 #[.int .u64 ((x.dealN 0).h 0 : Int), .int .u64 ((x.dealN 0).h 1 : Int), .int .u64 ((x.dealN 0).h 2 : Int), .int .u64 ((x.dealN 0).h 3 : Int)] := by
    rw [hwa]; have := (Row.new ((w.alloc (.cells #[.int .u64 0, .int .u64 0, .int .u64 0, .int .u64 0] 26)).alloc (.cells #[.int .u8 0, .int .u8 0, .int .u8 0, .int .u8 0] 28)) 26 #[.int .u64 0, .int .u64 0, .int .u64 0, .int .u64 0])
    rw [World.size_alloc, World.size_alloc] at this; exact this
  have hza := hz.below (Nat.le_refl _) hBa
  have hsa : wa.heap.size = w.heap.size + 3 := by rw [hwa]; simp
  have hzb : 0 < len → ∀ ad, a = some ad → ad.block < w.heap.size := fun h0 ad h => by obtain ⟨b, off, e, hb, _⟩ := hz.at h0; rw [e] at h; injection h with h; subst h; exact hb
  have HSA := Lib.hid hsa
  generalize hN : w.heap.size = N at *
  clear hwa hsa hz
  go_loopw [10, 19] (fun al i wr => ∃ k : Nat, k ≤ M ∧ i = .int .i64 (k : Int) ∧ al = .int .u64 ((x.dealN k).all : Int) ∧ Row wr (N + 2) 26 (arr4 (x.dealN k).h) ∧ Kept (fun b => b ≠ N + 2) wa wr) (fun _ i _ => M - (intOf i).toNat)
  case atStart => exact ⟨0, by omega, rfl, rfl, hr2, Kept.refl _ _⟩
  case round =>
    obtain ⟨k, hk, rfl, rfl, hrr, hkp⟩ := hrel
    by_cases hlt : k < M
    · have hd := deal_ok x k (by omega)
      have hsk := seek_free (all := (x.dealN k).all) (c := x.at k) (by rw [hd.popa]; omega)
      have hNX := Lib.hid (show x.dealN (k + 1) = (x.dealN k).next x k from rfl)
      have hwh : ∀ j, W64 ((x.dealN k).h j) := fun j => Nat.lt_of_lt_of_le (lt_of_bits fun c hc => (hd.bit j c hc).1) (by decide)
      have hwa64 : W64 (x.dealN k).all := Nat.lt_of_lt_of_le (lt_of_bits fun c hc => by obtain ⟨j, _, hb⟩ := hd.alls c hc; exact (hd.bit j c hb).1) (by decide)
      have hcardk : Hid (x.card (x.dealN k) k = (x.at k + seekK (x.dealN k).all (x.at k) 51) % 52) := Lib.hid rfl
      clear hd
      unfold DlP.next at hNX
      generalize x.dealN k = s at *
      have hk4 : k % 4 < 4 := Nat.mod_lt _ (by decide)
      have hm := (hrr.cell (k % 4)).trans (arr4_get s.h _ hk4)
      have hf := hrr.frozen (k % 4)
      have hwk := hwh (k % 4)
      have HW := Lib.hid hwh
      have HRR := Lib.hid hrr
      clear hwh hrr
      by_cases hkl : k < len
      · have hX : x.at k = x.zs.getD k 0 % 52 := by unfold Mn.at; rw [hza.length, if_pos hkl]
        obtain ⟨b, off, rfl, hb, hcs⟩ := hza.at (by omega)
        have hck := (hkp.cell (p := ⟨b, off + k, none⟩) (by have := hzb (by omega) _ rfl; show b ≠ N + 2; simp at this; omega) hb).trans (hcs k hkl)
        have hby := hza.byte k
        have HCS := Lib.hid hcs
        clear hcs
        generalize x.zs.getD k 0 = z at *
        obtain ⟨c0, hc0⟩ : ∃ c0, c0 = x.at k := ⟨_, rfl⟩
        have hXI : (z : Int) % 52 = (c0 : Int) := by rw [hc0, hX]; omega
        have hc52 : c0 < 52 := by rw [hc0, hX]; omega
        rw [← hc0] at hsk hcardk
        clear hc0 hX
        obtain ⟨D, hD⟩ : ∃ D, D = seekK s.all c0 51 := ⟨_, rfl⟩
        rw [← hD] at hsk hcardk
        clear hD
        obtain ⟨hD51, hDf, hDt⟩ := hsk
        have HDT := Lib.hid hDt
        have HDF := Lib.hid hDf
        clear hDt hDf
        go_wp2_with fail
        rw [hXI]
        clear hXI
        go_loopw [12] (fun c w2 => ∃ j, j ≤ D ∧ c = .int .u8 (((c0 + j) % 52 : Nat) : Int) ∧ w2 = wr) (fun c _ => ((c0 + D) % 52 + 52 - (intOf c).toNat) % 52)
        case atStart => exact ⟨0, by omega, by rw [Nat.add_zero, Nat.mod_eq_of_lt hc52], rfl⟩
        case round =>
          obtain ⟨j, hj, rfl, rfl⟩ := hrel
          obtain ⟨cj, hcj⟩ : ∃ cj, cj = (c0 + j) % 52 := ⟨_, rfl⟩
          have hcj52 : cj < 52 := by omega
          rw [← hcj]
          have HCJ := Lib.hid hcj
          by_cases hjD : j < D
          · have hbit : s.all.testBit cj = true := by rw [hcj]; exact HDT.out j hjD
            clear hcj
            go_wp2_with fail
            go_roundw
            case rel => exact ⟨j + 1, by omega, by have := HCJ.out; congr 1; omega, trivial⟩
            case measure => have := HCJ.out; simp [intOf]; omega
          · have hje : j = D := by omega
            have hbit : s.all.testBit cj = false := by rw [hcj, hje]; exact HDF.out
            have HCK := Lib.hid (show x.card s k = cj by rw [hcardk.out, hcj, hje])
            clear hcj hje
            go_wp2_with fail
            have r5 := HRR.out.set (k % 4) (.int .u64 ((lor (s.h (k % 4)) (shl1 cj) : Nat) : Int))
            rw [arr4_set _ _ _ hk4] at r5
            refine ⟨⟨k + 1, by omega, by go_num, by rw [hNX.out, HCK.out], ?_, hkp.setCell (by simp) _⟩, by simp [intOf]; omega⟩
            rw [hNX.out, HCK.out]
            exact r5
      · have hX : x.at k = 7 * k % 52 := by unfold Mn.at; rw [hza.length, if_neg hkl]
        obtain ⟨c0, hc0⟩ : ∃ c0, c0 = x.at k := ⟨_, rfl⟩
        have hXI : 7 * (k : Int) % 52 = (c0 : Int) := by rw [hc0, hX]; omega
        have hc52 : c0 < 52 := by rw [hc0, hX]; omega
        rw [← hc0] at hsk hcardk
        clear hc0 hX
        obtain ⟨D, hD⟩ : ∃ D, D = seekK s.all c0 51 := ⟨_, rfl⟩
        rw [← hD] at hsk hcardk
        clear hD
        obtain ⟨hD51, hDf, hDt⟩ := hsk
        have HDT := Lib.hid hDt
        have HDF := Lib.hid hDf
        clear hDt hDf
        go_wp2_with fail
        rw [hXI]
        clear hXI
        go_loopw [12] (fun c w2 => ∃ j, j ≤ D ∧ c = .int .u8 (((c0 + j) % 52 : Nat) : Int) ∧ w2 = wr) (fun c _ => ((c0 + D) % 52 + 52 - (intOf c).toNat) % 52)
        case atStart => exact ⟨0, by omega, by rw [Nat.add_zero, Nat.mod_eq_of_lt hc52], rfl⟩
        case round =>
          obtain ⟨j, hj, rfl, rfl⟩ := hrel
          obtain ⟨cj, hcj⟩ : ∃ cj, cj = (c0 + j) % 52 := ⟨_, rfl⟩
          have hcj52 : cj < 52 := by omega
          rw [← hcj]
          have HCJ := Lib.hid hcj
          by_cases hjD : j < D
          · have hbit : s.all.testBit cj = true := by rw [hcj]; exact HDT.out j hjD
            clear hcj
            go_wp2_with fail
            go_roundw
            case rel => exact ⟨j + 1, by omega, by have := HCJ.out; congr 1; omega, trivial⟩
            case measure => have := HCJ.out; simp [intOf]; omega
          · have hje : j = D := by omega
            have hbit : s.all.testBit cj = false := by rw [hcj, hje]; exact HDF.out
            have HCK := Lib.hid (show x.card s k = cj by rw [hcardk.out, hcj, hje])
            clear hcj hje
            go_wp2_with fail
            have r5 := HRR.out.set (k % 4) (.int .u64 ((lor (s.h (k % 4)) (shl1 cj) : Nat) : Int))
            rw [arr4_set _ _ _ hk4] at r5
            refine ⟨⟨k + 1, by omega, by go_num, by rw [hNX.out, HCK.out], ?_, hkp.setCell (by simp) _⟩, by simp [intOf]; omega⟩
            rw [hNX.out, HCK.out]
            exact r5
    · have hke : k = M := by omega
      subst hke
      have hR0 := hr0.kept (S := fun b => b ≠ N + 2) (by omega) hkp
      have hR1 := hr1.kept (S := fun b => b ≠ N + 2) (by omega) hkp
      have hlb : Below N w wr := hBa.trans ⟨hkp.os, hkp.tape, hkp.output, hkp.size, fun b hb => hkp.block b (by show b ≠ N + 2; omega) (by have := HSA.out; omega)⟩
      have e0 := hrr.cell 0
      have e1 := hrr.cell 1
      have e2 := hrr.cell 2
      have e3 := hrr.cell 3
      simp only [List.getElem?_toArray, List.getElem?_cons_zero, List.getElem?_cons_succ] at e0 e1 e2 e3
      have f0 := hR0.cell 0
      have f1 := hR0.cell 1
      have f2 := hR0.cell 2
      have f3 := hR0.cell 3
      simp only [List.getElem?_toArray, List.getElem?_cons_zero, List.getElem?_cons_succ] at f0 f1 f2 f3
      have g0 := hR1.cell 0
      have g1 := hR1.cell 1
      have g2 := hR1.cell 2
      have g3 := hR1.cell 3
      simp only [List.getElem?_toArray, List.getElem?_cons_zero, List.getElem?_cons_succ] at g0 g1 g2 g3
      have q0 := hR0.frozen 0
      have q1 := hR0.frozen 1
      have q2 := hR0.frozen 2
      have q3 := hR0.frozen 3
      have p0 := hR1.frozen 0
      have p1 := hR1.frozen 1
      have p2 := hR1.frozen 2
      have p3 := hR1.frozen 3
      go_wp2_with fail
      have hdx : (x.dealN k).h = x.d := by unfold Mn.d; rw [HM.out]
      have e1 : (1 + (x.c : Int) % 7) = (x.lv : Int) := by unfold Mn.lv; omega
      have e2 : (x.c : Int) / 7 % 5 = (x.dn : Int) := by unfold Mn.dn; omega
      have e3 : (x.c : Int) % 3 = (x.rk : Int) := by unfold Mn.rk; omega
      have e4 : (x.c : Int) / 35 % 4 = (x.dc : Int) := by unfold Mn.dc; omega
      rw [e1, e2, e3, e4, hdx]
      refine bodyPost_ret (v := .tuple #[.agg #[.int .u64 (x.d 0 : Int), .int .u64 (x.d 1 : Int), .int .u64 (x.d 2 : Int), .int .u64 (x.d 3 : Int)], .agg #[.int .u8 (x.lv : Int), .int .u8 (x.dn : Int), .int .u8 (x.rk : Int), .int .u8 (x.dc : Int)]]) (by simp [results, Tryd.results12, go_sem, f0, f1, f2, f3, g0, g1, g2, g3]) rfl ⟨rfl, ?_⟩
      rw [hN]
      have n0 : N ≤ N := Nat.le_refl _
      have n1 : N ≤ N + 1 := by omega
      exact (((((((hlb.setCell (p := ⟨N, 0, none⟩) n0 _).setCell (p := ⟨N, 1, none⟩) n0 _).setCell (p := ⟨N, 2, none⟩) n0 _).setCell (p := ⟨N, 3, none⟩) n0 _).setCell (p := ⟨N + 1, 0, none⟩) n1 _).setCell (p := ⟨N + 1, 1, none⟩) n1 _).setCell (p := ⟨N + 1, 2, none⟩) n1 _).setCell (p := ⟨N + 1, 3, none⟩) n1 _
end Go.Proofs.YtginbellakkliaaDoor
