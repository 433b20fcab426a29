/- Contract of finesselaw11.Made, over the first few elements alone. -/
import Derived.Test.YthilcnhnfdddhaaDoorMade
namespace Go.Proofs.YthilcnhnfdddhaaDoor
open Go.RowKit Go.Shelf Go.Sort

set_option maxRecDepth 100000 in
theorem law_MadeN (a : Option Addr) (len cap most : Nat) (zs : List Nat) (w : World) (hz : Byt w a (min len most) zs) (hsm : len ≤ 200000000000000) (hcap : len ≤ cap) (hm : most ≤ 4) :
    Calls Tryd.prog 13 #[.slice a len cap, .int .i64 (most : Int)] w (Owned w (madeTo zs (min len most))) := by
  rcases Nat.lt_or_ge most len with hml | hml
  · have hn4 : most ≤ 4 := by omega
    have hnl : most ≤ len := by omega
    have hncap : most ≤ cap := by omega
    have HMIN : Hid (min len most = most) := Lib.hid (by omega)
    rw [HMIN.out] at hz
    go_enter Tryd.func13, Tryd.ntmps13
    go_wp2_with fail
    go_loopg [5, 7, 8, 16] most (fun gk out _ _ i wr => ∃ k : Nat, k ≤ most ∧ gk = most - k ∧ i = .int .i64 (k : Int) ∧ OwnB wr w.heap.size out (madeTo zs k) ∧ Below w.heap.size w wr)
    case atStart => exact ⟨0, Nat.zero_le _, rfl, rfl, OwnB.nil _ _, Below.refl _ _⟩
    case round =>
      obtain ⟨k, hk, rfl, rfl, hown, hB⟩ := hrel
      obtain ⟨wo, rfl⟩ : ∃ wo : World, wo = wr := ⟨_, rfl⟩
      by_cases hlt : k < most
      · obtain ⟨b, off, rfl, hb, hcs⟩ := hz.at (by omega)
        have hc : wo.cell? ⟨b, off + k, none⟩ = some (.int .u8 ((zs.getD k 0 : Nat) : Int)) := (hB.cell (p := ⟨b, off + k, none⟩) hb).trans (hcs k (by omega))
        have hby := hz.byte k
        have HT : Hid (madeTo zs (k + 1) = madeTo zs k ++ [fresh (madeTo zs k) (zs.getD k 0 % 52)]) := Lib.hid rfl
        have hml := madeTo_length zs k
        obtain ⟨hm1, hm2⟩ := madeTo_ok zs k (by omega)
        have HBY := Lib.hid (made_byte hm1)
        clear hcs hm1 hm2
        generalize zs.getD k 0 = z at *
        obtain ⟨c0, hc0⟩ : ∃ c0 : Nat, c0 = z % 52 := ⟨_, rfl⟩
        have hc52 : c0 < 52 := by omega
        have HCI : Hid ((z : Int) % 52 = (c0 : Int)) := Lib.hid (by omega)
        rw [← hc0] at HT
        clear hc0
        generalize madeTo zs k = out at *
        obtain ⟨ao, co, rfl, hnil, hzo⟩ := hown.byt (by omega) HBY.out
        have hol : out.length ≤ 3 := by omega
        have HOWN := Lib.hid hown
        have HNIL := Lib.hid hnil
        clear hown hml hnil
        go_wp2_with fail
        go_loopg [8] 3 (fun gj c wr => ∃ j : Nat, j ≤ 3 ∧ gj = 3 - j ∧ c = .int .u8 (((c0 + j) % 52 : Nat) : Int) ∧ InTo out c0 j ∧ wo = wr)
        case atStart => exact ⟨0, by omega, rfl, by rw [HCI.out, show (c0 + 0) % 52 = c0 by omega], fun i hi => by omega, rfl⟩
        case round =>
          obtain ⟨j, hj, rfl, rfl, hin, rfl⟩ := hrel
          have hlt52 : (c0 + j) % 52 < 52 := Nat.mod_lt _ (by decide)
          have HM : Hid ((c0 + (j + 1)) % 52 = ((c0 + j) % 52 + 1) % 52) := Lib.hid (by omega)
          have HFS : Hid (out.contains ((c0 + j) % 52) = false → fresh out c0 = (c0 + j) % 52) := Lib.hid fun h => fresh_step out c0 hc52 j hj hin h
          have HIN := Lib.hid hin
          clear hin
          generalize hcj : (c0 + j) % 52 = cj at *
          have HCJ := Lib.hid hcj
          clear hcj
          cases hco : out.contains cj
          · have HCO := Lib.hid hco
            clear hco
            go_wp2_with (first
              | (go_at_call 35; refine (slices_contains _ _ _ cj out _ hzo).mono ?_; rw [HCO.out]; rintro e w' ⟨rfl, rfl⟩)
              | (at_builtin; refine app_any rfl (.tmp 28) (.tmp 30) rfl w.heap.size _ out [cj] rfl (HOWN.out.alloc _) _ _ _ rfl (byt_one _ cj (by omega)) (fun h => by cases h) (by omega) (by have := hB.size; simp; omega) ?_; intro v2 w2 hown2 hB2 _))
            go_roundg (most - (k + 1))
            case rel =>
              refine ⟨k + 1, by omega, rfl, by go_num, ?_, (hB.alloc hB.size _).trans hB2⟩
              rw [HT.out, HFS.out HCO.out]; exact hown2
            case measure => omega
          · have HCO := Lib.hid hco
            clear hco
            have hj1 : j + 1 ≤ 3 := inTo_le hol hc52 hj HIN.out (by rw [HCJ.out]; exact HCO.out)
            go_wp2_with (go_at_call 35; refine (slices_contains _ _ _ cj out _ hzo).mono ?_; rw [HCO.out]; rintro e w' ⟨rfl, rfl⟩)
            go_roundg (3 - (j + 1))
            case rel => exact ⟨j + 1, hj1, rfl, by rw [HM.out]; go_num, inTo_succ HIN.out (by rw [HCJ.out]; exact HCO.out), rfl⟩
            case measure => omega
      · have hk' : k = most := by omega
        subst hk'
        go_wp2_with fail
        go_ret
        exact ⟨_, rfl, by rw [HMIN.out]; exact hown, hB⟩
  · have hn4 : len ≤ 4 := by omega
    have hnl : len ≤ len := by omega
    have hncap : len ≤ cap := by omega
    have HMIN : Hid (min len most = len) := Lib.hid (by omega)
    rw [HMIN.out] at hz
    go_enter Tryd.func13, Tryd.ntmps13
    go_wp2_with fail
    go_loopg [5, 7, 8, 16] len (fun gk out _ _ i wr => ∃ k : Nat, k ≤ len ∧ gk = len - k ∧ i = .int .i64 (k : Int) ∧ OwnB wr w.heap.size out (madeTo zs k) ∧ Below w.heap.size w wr)
    case atStart => exact ⟨0, Nat.zero_le _, rfl, rfl, OwnB.nil _ _, Below.refl _ _⟩
    case round =>
      obtain ⟨k, hk, rfl, rfl, hown, hB⟩ := hrel
      obtain ⟨wo, rfl⟩ : ∃ wo : World, wo = wr := ⟨_, rfl⟩
      by_cases hlt : k < len
      · obtain ⟨b, off, rfl, hb, hcs⟩ := hz.at (by omega)
        have hc : wo.cell? ⟨b, off + k, none⟩ = some (.int .u8 ((zs.getD k 0 : Nat) : Int)) := (hB.cell (p := ⟨b, off + k, none⟩) hb).trans (hcs k (by omega))
        have hby := hz.byte k
        have HT : Hid (madeTo zs (k + 1) = madeTo zs k ++ [fresh (madeTo zs k) (zs.getD k 0 % 52)]) := Lib.hid rfl
        have hml := madeTo_length zs k
        obtain ⟨hm1, hm2⟩ := madeTo_ok zs k (by omega)
        have HBY := Lib.hid (made_byte hm1)
        clear hcs hm1 hm2
        generalize zs.getD k 0 = z at *
        obtain ⟨c0, hc0⟩ : ∃ c0 : Nat, c0 = z % 52 := ⟨_, rfl⟩
        have hc52 : c0 < 52 := by omega
        have HCI : Hid ((z : Int) % 52 = (c0 : Int)) := Lib.hid (by omega)
        rw [← hc0] at HT
        clear hc0
        generalize madeTo zs k = out at *
        obtain ⟨ao, co, rfl, hnil, hzo⟩ := hown.byt (by omega) HBY.out
        have hol : out.length ≤ 3 := by omega
        have HOWN := Lib.hid hown
        have HNIL := Lib.hid hnil
        clear hown hml hnil
        go_wp2_with fail
        go_loopg [8] 3 (fun gj c wr => ∃ j : Nat, j ≤ 3 ∧ gj = 3 - j ∧ c = .int .u8 (((c0 + j) % 52 : Nat) : Int) ∧ InTo out c0 j ∧ wo = wr)
        case atStart => exact ⟨0, by omega, rfl, by rw [HCI.out, show (c0 + 0) % 52 = c0 by omega], fun i hi => by omega, rfl⟩
        case round =>
          obtain ⟨j, hj, rfl, rfl, hin, rfl⟩ := hrel
          have hlt52 : (c0 + j) % 52 < 52 := Nat.mod_lt _ (by decide)
          have HM : Hid ((c0 + (j + 1)) % 52 = ((c0 + j) % 52 + 1) % 52) := Lib.hid (by omega)
          have HFS : Hid (out.contains ((c0 + j) % 52) = false → fresh out c0 = (c0 + j) % 52) := Lib.hid fun h => fresh_step out c0 hc52 j hj hin h
          have HIN := Lib.hid hin
          clear hin
          generalize hcj : (c0 + j) % 52 = cj at *
          have HCJ := Lib.hid hcj
          clear hcj
          cases hco : out.contains cj
          · have HCO := Lib.hid hco
            clear hco
            go_wp2_with (first
              | (go_at_call 35; refine (slices_contains _ _ _ cj out _ hzo).mono ?_; rw [HCO.out]; rintro e w' ⟨rfl, rfl⟩)
              | (at_builtin; refine app_any rfl (.tmp 28) (.tmp 30) rfl w.heap.size _ out [cj] rfl (HOWN.out.alloc _) _ _ _ rfl (byt_one _ cj (by omega)) (fun h => by cases h) (by omega) (by have := hB.size; simp; omega) ?_; intro v2 w2 hown2 hB2 _))
            go_roundg (len - (k + 1))
            case rel =>
              refine ⟨k + 1, by omega, rfl, by go_num, ?_, (hB.alloc hB.size _).trans hB2⟩
              rw [HT.out, HFS.out HCO.out]; exact hown2
            case measure => omega
          · have HCO := Lib.hid hco
            clear hco
            have hj1 : j + 1 ≤ 3 := inTo_le hol hc52 hj HIN.out (by rw [HCJ.out]; exact HCO.out)
            go_wp2_with (go_at_call 35; refine (slices_contains _ _ _ cj out _ hzo).mono ?_; rw [HCO.out]; rintro e w' ⟨rfl, rfl⟩)
            go_roundg (3 - (j + 1))
            case rel => exact ⟨j + 1, hj1, rfl, by rw [HM.out]; go_num, inTo_succ HIN.out (by rw [HCJ.out]; exact HCO.out), rfl⟩
            case measure => omega
      · have hk' : k = len := by omega
        subst hk'
        go_wp2_with fail
        go_ret
        exact ⟨_, rfl, by rw [HMIN.out]; exact hown, hB⟩
end Go.Proofs.YthilcnhnfdddhaaDoor
