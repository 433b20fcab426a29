/- finesselaw11.TrickSuits returns true for every input. -/
import Derived.Test.YthilcnhnfdddhaaDoorSuits
namespace Go.Proofs.YthilcnhnfdddhaaDoor
open Go.RowKit Go.Shelf Go.Sort

theorem run_and4 (b : Nat) (hb : b < 256) : Op.intBits .and .u8 (b : Int) 4 = pure (.int .u8 ((b &&& 4 : Nat) : Int)) := by
  have e : Op.intBits .and .u8 (b : Int) ((4 : Nat) : Int) = pure (.int .u8 (IntKind.u8.wrap (((BitVec.ofInt 8 (b : Int)) &&& (BitVec.ofInt 8 ((4 : Nat) : Int))).toNat : Nat))) := rfl
  have e2 : (BitVec.ofInt 8 (b : Int)) = BitVec.ofNat 8 b := by simp [BitVec.ofInt_natCast]
  have e3 : (BitVec.ofInt 8 ((4 : Nat) : Int)) = BitVec.ofNat 8 4 := rfl
  have h : Op.intBits .and .u8 (b : Int) ((4 : Nat) : Int) = pure (.int .u8 ((b &&& 4 : Nat) : Int)) := by
    rw [e, e2, e3, BitVec.toNat_and, BitVec.toNat_ofNat, BitVec.toNat_ofNat, Nat.mod_eq_of_lt hb, Nat.mod_eq_of_lt (by decide), IntWalk.u8_in _ (by have : b &&& 4 ≤ 4 := Nat.and_le_right; omega)]
  exact h
theorem suits1 (b s p : Nat) (w : World) (hb : b < 256) (hs : s < 256) (hp : w.cell? ⟨p, 0, none⟩ = some (.int .u8 (b : Int))) :
    Calls Tryd.prog 14 #[.int .u8 (s : Int), .pointer (some ⟨p, 0, none⟩)] w fun e w' => e = .returned (.int .u8 ((nm b s : Nat) : Int)) ∧ w = w' := by
  have hr := run_and4 b hb
  by_cases h3 : 3 < s
  · have HE : Hid (nm b s = s) := Lib.hid (by unfold nm; rw [if_pos h3])
    clear hr
    go_enter Tryd.func14, Tryd.ntmps14
    go_wp2
    go_ret
    exact ⟨by rw [HE.out]; rfl, rfl⟩
  have h4 : ex4 b = (((b &&& 4 : Nat) : Int) == 4) := by unfold ex4; rw [Bool.eq_iff_iff]; simp; omega
  have HE : Hid (nm b s = ((if ex4 b && decide (s < 2) then 1 - s else s) + b) % 4) := Lib.hid (by unfold nm; rw [if_neg h3])
  cases he : ex4 b
  · rw [he] at h4
    have h4' : (((b &&& 4 : Nat) : Int) == 4) = false := h4.symm
    clear h4
    generalize b &&& 4 = b4 at *
    have HE2 : Hid (((nm b s : Nat) : Int) = ((s : Int) + (b : Int)) % 4) := Lib.hid (by
      rw [HE.out, he]; simp only [Bool.false_and, Bool.false_eq_true, if_false]; omega)
    clear HE
    go_enter Tryd.func14, Tryd.ntmps14
    go_wp2
    go_ret
    exact ⟨by rw [HE2.out]; simp, rfl⟩
  · rw [he] at h4
    have h4' : (((b &&& 4 : Nat) : Int) == 4) = true := h4.symm
    clear h4
    generalize b &&& 4 = b4 at *
    by_cases h2 : s < 2
    · have h2' : decide ((s : Int) < 2) = true := by simp; omega
      have HE2 : Hid (((nm b s : Nat) : Int) = (1 - (s : Int) + (b : Int)) % 4) := Lib.hid (by
        rw [HE.out, he]; simp only [Bool.true_and, h2, decide_true, if_true]; omega)
      clear HE
      go_enter Tryd.func14, Tryd.ntmps14
      go_wp2
      go_ret
      exact ⟨by rw [HE2.out]; simp, rfl⟩
    · have h2' : decide ((s : Int) < 2) = false := by simp; omega
      have HE2 : Hid (((nm b s : Nat) : Int) = ((s : Int) + (b : Int)) % 4) := Lib.hid (by
        rw [HE.out, he]; simp only [Bool.true_and, h2, decide_false, Bool.false_eq_true, if_false]; omega)
      clear HE
      go_enter Tryd.func14, Tryd.ntmps14
      go_wp2
      go_ret
      exact ⟨by rw [HE2.out]; simp, rfl⟩
theorem suits1_div (b c p : Nat) (w : World) (hb : b < 256) (hc : c < 256) (hp : w.cell? ⟨p, 0, none⟩ = some (.int .u8 (b : Int))) :
    Calls Tryd.prog 14 #[.int .u8 ((c : Int) / 13), .pointer (some ⟨p, 0, none⟩)] w fun e w' => e = .returned (.int .u8 ((nm b (c / 13) : Nat) : Int)) ∧ w = w' := by
  have h := suits1 b (c / 13) p w hb (by omega) hp
  have e : (((c / 13 : Nat)) : Int) = (c : Int) / 13 := by omega
  rwa [e] at h
/-- the closure 'name' lies in the box q -/
def Named (w : World) (b p q : Nat) : Prop := w.cell? ⟨p, 0, none⟩ = some (.int .u8 (b : Int)) ∧ w.cell? ⟨q, 0, none⟩ = some (.func (.func 14) #[] #[.pointer (some ⟨p, 0, none⟩)])
theorem Named.below {w w' : World} {b p q : Nat} (h : Named w b p q) (hb : Below w.heap.size w w') : Named w' b p q :=
  ⟨(hb.cell (p := ⟨p, 0, none⟩) (block_lt_of_cell h.1)).trans h.1, (hb.cell (p := ⟨q, 0, none⟩) (block_lt_of_cell h.2)).trans h.2⟩
theorem suits2 (b m p q : Nat) (w : World) (hb : b < 256) (hm : W64 m) (hN : Named w b p q) :
    Calls Tryd.prog 15 #[.int .u64 (m : Int), .pointer (some ⟨q, 0, none⟩)] w fun e w' => e = .returned (.int .u64 ((rnM b m : Nat) : Int)) ∧ w = w' := by
  obtain ⟨hp, hq⟩ := hN
  have HP := Lib.hid hp
  clear hp
  go_enter Tryd.func15, Tryd.ntmps15
  go_wp2
  go_loop [4, 5, 6] (fun out _ i => ∃ k : Nat, k ≤ 52 ∧ i = .int .u8 (k : Int) ∧ out = .int .u64 ((rnTo b m k : Nat) : Int)) (fun _ _ i => 52 - (intOf i).toNat)
  case atStart => exact ⟨0, by omega, rfl, rfl⟩
  case round =>
    obtain ⟨k, hk, rfl, rfl⟩ := hrel
    by_cases hlt : k < 52
    · have hw := rnTo_w64 b m k
      have hnm := nm_le b (k / 13) (by omega)
      have HS : Hid (rnTo b m (k + 1) = if m.testBit k then lor (rnTo b m k) (shl1 (rn b k)) else rnTo b m k) := Lib.hid rfl
      have hrn : 13 * ((nm b (k / 13) : Nat) : Int) + (k : Int) % 13 = ((rn b k : Nat) : Int) := by unfold rn; omega
      generalize rnTo b m k = x at *
      generalize rn b k = r at *
      have hsu := suits1_div b k p w hb (by omega) HP.out
      have HSU := Lib.hid hsu
      clear hsu
      generalize nm b (k / 13) = y at *
      cases hbit : m.testBit k
      · clear hrn
        go_wp2
        go_round
        case rel => exact ⟨k + 1, by omega, by go_num, by rw [HS.out, hbit]; simp⟩
        case measure => simp [intOf]; omega
      · go_wp2_with (go_at_call 14; refine HSU.out.mono ?_; rintro e w' ⟨rfl, rfl⟩)
        go_round
        case rel => exact ⟨k + 1, by omega, by go_num, by rw [HS.out, hbit]; simp⟩
        case measure => simp [intOf]; omega
    · have hk' : k = 52 := by omega
      subst hk'
      go_wp2
      go_ret
      exact ⟨rfl, rfl⟩

theorem map_snoc (f : Nat → Nat) (l : List Nat) (k : Nat) (h : k < l.length) : (l.take (k + 1)).map f = (l.take k).map f ++ [f (l.getD k 0)] := by
  rw [take_snoc l k h, List.map_append]; rfl
theorem made_byte_map (b : Nat) (l : List Nat) (h : ∀ c ∈ l, c < 52) (i : Nat) : (l.map (rn b)).getD i 0 < 256 :=
  made_byte (l := l.map (rn b)) (fun c hc => by obtain ⟨d, hd, rfl⟩ := List.mem_map.1 hc; exact rn_lt b d (h d hd)) i
theorem take_right {l : List Nat} (h : rightB l = true) (n : Nat) (h1 : 1 ≤ n) (hn : n ≤ l.length) : rightB (l.take n) = true := by
  rw [rightB_iff] at h ⊢
  rw [List.length_take, Nat.min_eq_left hn]
  exact ⟨h1, by omega, fun c hc => h.2.2.1 c (List.mem_of_mem_take hc), h.2.2.2.sublist (List.take_sublist _ _)⟩
theorem suits_tail (b hand : Nat) (l : List Nat) (_hl : ∀ c ∈ l, c < 52) (hr : rightB l = true) (n : Nat) (h1 : n ≤ 3) (hn : n ≤ l.length) :
    (playableV (lo52 hand) (l.take n)).2 = 0 ∧ (playableV (rnM b (lo52 hand)) ((l.map (rn b)).take n)).2 = 0 ∧ rnM b (playableV (lo52 hand) (l.take n)).1 = (playableV (rnM b (lo52 hand)) ((l.map (rn b)).take n)).1 := by
  have e : (l.map (rn b)).take n = (l.take n).map (rn b) := List.map_take.symm
  rw [e]
  refine playable_map b (lo52 hand) (l.take n) (lo52_lt hand) (by rw [List.length_take]; omega) fun h => take_right hr n ?_ hn
  rw [List.length_take] at h; omega
set_option maxHeartbeats 1000000 in
set_option maxRecDepth 100000 in
theorem law_TrickSuits (a : Option Addr) (len cap : Nat) (zs : List Nat) (hand t b : Nat) (w : World) (hz : Byt w a len zs ∧ (a = none → cap = 0) ∧ len ≤ cap) (hh : W64 hand) (_ht : t < 256) (hb : b < 256) (hT : Tab w) :
    Calls Tryd.prog 4 #[.slice a len cap, .int .u64 (hand : Int), .int .u8 (t : Int), .int .u8 (b : Int)] w fun e w' => e = .returned (.bool true) ∧ Below w.heap.size w w' := by
  obtain ⟨hz, -, hcap⟩ := hz
  have hmade := fun w1 (hb : Below w.heap.size w w1) => law_Made a len cap 4 zs w1 (hz.below (Nat.le_refl _) hb) hcap (by decide)
  have hn4 : min len 4 ≤ 4 := by omega
  generalize min len 4 = n at *
  have hml := madeTo_length zs n
  have hmo := (madeTo_ok zs n (by omega)).1
  have hby := made_byte hmo
  have hri := made_right zs n
  generalize madeTo zs n = l at *
  subst hml
  have HM := Lib.hid hmade
  have HBY := Lib.hid hby
  have HMO := Lib.hid hmo
  have HRI := Lib.hid hri
  clear hmade hby hmo hri
  obtain ⟨t5, ht5⟩ : ∃ t5 : Nat, t5 = t % 5 := ⟨_, rfl⟩
  have HTI : Hid ((t : Int) % 5 = (t5 : Int)) := Lib.hid (by omega)
  have ht4 : t5 ≤ 4 := by omega
  clear ht5
  obtain ⟨wa, hwa⟩ : ∃ wa, wa = w.alloc (.cells #[.int .u8 (b : Int)] 5) := ⟨_, rfl⟩
  have hBa : Below w.heap.size w wa := by rw [hwa]; exact (Below.refl _ _).alloc (Nat.le_refl _) _
  have hca : wa.cell? ⟨w.heap.size, 0, none⟩ = some (.int .u8 (b : Int)) := by rw [hwa]; simp [go_sem]
  have HWA := Lib.hid hwa
  clear hwa
  go_enter Tryd.func4, Tryd.ntmps4
  go_wp2_with fail
  rw [← HWA.out]
  refine (law_awake _ (hT.below hT.pos hBa)).mono ?_
  rintro e w1 ⟨rfl, hb1⟩
  have hB1 := hBa.trans (hb1.mono hBa.size)
  have hc1 := (hb1.cell (p := ⟨w.heap.size, 0, none⟩) (block_lt_of_cell hca)).trans hca
  go_wp2_with fail
  refine (HM.out _ hB1).mono ?_
  rintro e w2 ⟨v, rfl, hv, hb2⟩
  obtain ⟨ao, co, rfl, -, hco, hzo⟩ := OwnB.bytc hv (by omega) HBY.out
  have hB2 := hB1.trans (hb2.mono hB1.size)
  have hc2 := (hb2.cell (p := ⟨w.heap.size, 0, none⟩) (block_lt_of_cell hc1)).trans hc1
  clear hv hc1 hca
  have hB3 : Below w2.heap.size w2 (w2.alloc (.cells #[.func (.func 14) #[] #[.pointer (some ⟨w.heap.size, 0, none⟩)]] 27)) := (Below.refl _ _).alloc (Nat.le_refl _) _
  have hN3 : Named (w2.alloc (.cells #[.func (.func 14) #[] #[.pointer (some ⟨w.heap.size, 0, none⟩)]] 27)) b w.heap.size w2.heap.size :=
    ⟨(hB3.cell (p := ⟨w.heap.size, 0, none⟩) (block_lt_of_cell hc2)).trans hc2, by simp [go_sem]⟩
  have HSZ : Hid (w2.heap.size + 1 = (w2.alloc (.cells #[.func (.func 14) #[] #[.pointer (some ⟨w.heap.size, 0, none⟩)]] 27)).heap.size) := Lib.hid (by simp)
  clear hc2
  go_wp2_with fail
  rw [HTI.out, HSZ.out]
  generalize w2.alloc (.cells #[.func (.func 14) #[] #[.pointer (some ⟨w.heap.size, 0, none⟩)]] 27) = w3 at *
  have hzo3 := hzo.below (Nat.le_refl _) hB3
  have hBw3 := hB2.trans (hB3.mono hB2.size)
  clear HSZ hzo
  go_loopg [11, 14, 37] l.length (fun gk v _ i wr => ∃ k : Nat, k ≤ l.length ∧ gk = l.length - k ∧ i = .int .i64 (k : Int) ∧ OwnB wr w3.heap.size v ((l.take k).map (rn b)) ∧ Below w3.heap.size w3 wr)
  case atStart => exact ⟨0, Nat.zero_le _, rfl, rfl, OwnB.made0 _ _ (Nat.le_refl _), (Below.refl _ _).alloc (Nat.le_refl _) _⟩
  case round =>
    obtain ⟨k, hk, rfl, rfl, hown, hB⟩ := hrel
    have hNr := hN3.below hB
    by_cases hlt : k < l.length
    · obtain ⟨bb, off, rfl, hbb, hcs⟩ := hzo3.at (by omega)
      have hc : wr.cell? ⟨bb, off + k, none⟩ = some (.int .u8 ((l.getD k 0 : Nat) : Int)) := (hB.cell (p := ⟨bb, off + k, none⟩) hbb).trans (hcs k hlt)
      have h52 := HMO.out _ (getD_mem hlt)
      have HS := Lib.hid (map_snoc (rn b) l k hlt)
      have hml : ((l.take k).map (rn b)).length ≤ 4 := by simp; omega
      clear hcs
      generalize (l.take k).map (rn b) = old at *
      generalize l.getD k 0 = c at *
      have hsu := suits1_div b c w.heap.size wr hb (by omega) hNr.1
      have hnm := nm_le b (c / 13) (by omega)
      have hrn : 13 * ((nm b (c / 13) : Nat) : Int) + (c : Int) % 13 = ((rn b c : Nat) : Int) := by unfold rn; omega
      have hrl := rn_lt b c h52
      have HRN := Lib.hid hrn
      have HSU := Lib.hid hsu
      have hcq := hNr.2
      clear hrn hsu hNr
      generalize rn b c = r at *
      generalize nm b (c / 13) = y at *
      have hsz : w3.heap.size ≤ wr.heap.size := hB.size
      go_wp2_with (first
        | (go_at_call 14; refine HSU.out.mono ?_; rintro e w' ⟨rfl, rfl⟩)
        | (at_builtin; rw [HRN.out]; refine app_any rfl (.tmp 41) (.tmp 50) rfl w3.heap.size _ old [r] rfl (hown.alloc _) _ _ _ rfl (byt_one wr r (by omega)) (fun h => by cases h) (by omega) (by simp only [World.size_alloc]; omega) ?_; intro v5 w5 hown5 hB5 _))
      go_roundg (l.length - (k + 1))
      case rel => exact ⟨k + 1, by omega, rfl, by go_num, by rw [HS.out]; exact hown5, (hB.alloc hsz _).trans hB5⟩
      case measure => omega
    · obtain rfl : k = l.length := by omega
      rw [List.take_of_length_le (Nat.le_refl _)] at hown
      obtain ⟨av, cv, rfl, -, hcv, hzv⟩ := hown.bytc (by rw [List.length_map]; omega) (made_byte_map b l HMO.out)
      rw [List.length_map] at hcv hzv ⊢
      have hzr := hzo3.below (Nat.le_refl _) hB
      have hBr := hBw3.trans (hB.mono hBw3.size)
      have hTr := hT.below hT.pos hBr
      clear hown
      have hren := fun m (hm : W64 m) w' (hb' : Below wr.heap.size wr w') => suits2 b m w.heap.size w2.heap.size w' hb hm (hNr.below hb')
      have HREN := Lib.hid hren
      clear hren
      by_cases h0 : l.length = 0
      · obtain rfl : l = [] := List.eq_nil_of_length_eq_zero h0
        obtain ⟨hp1, hp2, hp3⟩ := playable_map b (lo52 hand) [] (lo52_lt hand) (by simp) (fun h => absurd rfl h)
        have HP1 := Lib.hid hp1
        have HP2 := Lib.hid hp2
        have HP3 := Lib.hid hp3
        clear hp1 hp2 hp3
        simp only [List.map_nil] at *
        clear h0
        go_wp2_with fail
        refine (HREN.out _ (lo52_w64 hand) _ (Below.refl _ _)).mono ?_
        rintro e w' ⟨rfl, rfl⟩
        go_wp2_with fail
        refine (trick_Playable (lo52 hand) _ _ _ [] _ hzr (lo52_w64 hand) hTr).mono ?_
        rw [HP1.out]
        rintro e w6 ⟨rfl, hb6⟩
        go_wp2_with fail
        refine (trick_Playable (rnM b (lo52 hand)) _ _ _ [] _ (hzv.below (Nat.le_refl _) hb6) (w64_of_52 (rnM_lt _ _)) (hTr.below hTr.pos hb6)).mono ?_
        rw [HP2.out]
        rintro e w7 ⟨rfl, hb7⟩
        go_wp2_with fail
        refine (HREN.out _ (playableV_w64 _ _ (lo52_w64 hand)) _ (hb6.trans (hb7.mono hb6.size))).mono ?_
        rintro e w' ⟨rfl, rfl⟩
        rw [HP3.out]
        go_wp2_with fail
        go_ret
        have hB7 := hb6.trans (hb7.mono hb6.size)
        exact ⟨rfl, hBr.trans (hB7.mono hBr.size)⟩
      · have hpos : 0 < l.length := by omega
        have hr := HRI.out (by omega) (by omega)
        have hwm := winner_map b t5 l ht4 hr
        have hwe : (winnerV t5 l).2 = 0 := by unfold winnerV; rw [if_neg (by omega), if_pos hr]
        have hps : decide ((0 : Int) < (l.length : Int)) = true := by simp; omega
        have HWM := Lib.hid hwm
        have HWE := Lib.hid hwe
        clear hwm hwe
        have hco := hco
        go_wp2_with fail
        refine (HREN.out _ (lo52_w64 hand) _ (Below.refl _ _)).mono ?_
        rintro e w' ⟨rfl, rfl⟩
        go_wp2_with fail
        refine (trick_Winner t5 _ _ _ l _ hzr).mono ?_
        rw [HWE.out]
        rintro e w6 ⟨rfl, hb6⟩
        have hN6 := hNr.below hb6
        have hcq6 := hN6.2
        go_wp2_with fail
        refine (suits1 b t5 w.heap.size _ hb (by omega) hN6.1).mono ?_
        rintro e w' ⟨rfl, rfl⟩
        go_wp2_with fail
        refine (trick_Winner (nm b t5) _ _ _ (l.map (rn b)) _ (hzv.below (Nat.le_refl _) hb6)).mono ?_
        rw [HWM.out, HWE.out]
        rintro e w7 ⟨rfl, hb7⟩
        have hb67 := hb6.trans (hb7.mono hb6.size)
        clear hN6 hcq6
        have hz7 := hzr.below (Nat.le_refl _) hb67
        have hzv7 := hzv.below (Nat.le_refl _) hb67
        have hT7 := hTr.below hTr.pos hb67
        have hfin := suits_tail b hand l HMO.out hr
        have HFIN := Lib.hid hfin
        clear hfin
        rcases Nat.lt_or_ge 3 l.length with h3 | h3
        · obtain ⟨hp1, hp2, hp3⟩ := HFIN.out 3 (by omega) (by omega)
          have HP1 := Lib.hid hp1
          have HP2 := Lib.hid hp2
          have HP3 := Lib.hid hp3
          clear hp1 hp2 hp3
          go_wp2_with fail
          refine (trick_Playable (lo52 hand) _ _ _ (l.take 3) _ (hz7.take 3 (by omega)) (lo52_w64 hand) hT7).mono ?_
          rw [HP1.out]
          rintro e w8 ⟨rfl, hb8⟩
          go_wp2_with fail
          refine (trick_Playable (rnM b (lo52 hand)) _ _ _ ((l.map (rn b)).take 3) _ ((hzv7.below (Nat.le_refl _) hb8).take 3 (by omega)) (w64_of_52 (rnM_lt _ _)) (hT7.below hT7.pos hb8)).mono ?_
          rw [HP2.out]
          rintro e w9 ⟨rfl, hb9⟩
          have hb89 := hb67.trans ((hb8.trans (hb9.mono hb8.size)).mono hb67.size)
          go_wp2_with fail
          refine (HREN.out _ (playableV_w64 _ _ (lo52_w64 hand)) _ hb89).mono ?_
          rintro e w' ⟨rfl, rfl⟩
          rw [HP3.out]
          go_wp2_with fail
          go_ret
          exact ⟨rfl, hBr.trans (hb89.mono hBr.size)⟩
        · obtain ⟨hp1, hp2, hp3⟩ := HFIN.out l.length (by omega) (by omega)
          have e2 : (l.map (rn b)).take l.length = l.map (rn b) := List.take_of_length_le (by simp)
          rw [List.take_length] at hp1 hp3
          rw [e2] at hp2 hp3
          clear e2
          have HP1 := Lib.hid hp1
          have HP2 := Lib.hid hp2
          have HP3 := Lib.hid hp3
          clear hp1 hp2 hp3
          go_wp2_with fail
          refine (trick_Playable (lo52 hand) _ _ _ l _ hz7 (lo52_w64 hand) hT7).mono ?_
          rw [HP1.out]
          rintro e w8 ⟨rfl, hb8⟩
          go_wp2_with fail
          refine (trick_Playable (rnM b (lo52 hand)) _ _ _ (l.map (rn b)) _ (hzv7.below (Nat.le_refl _) hb8) (w64_of_52 (rnM_lt _ _)) (hT7.below hT7.pos hb8)).mono ?_
          rw [HP2.out]
          rintro e w9 ⟨rfl, hb9⟩
          have hb89 := hb67.trans ((hb8.trans (hb9.mono hb8.size)).mono hb67.size)
          go_wp2_with fail
          refine (HREN.out _ (playableV_w64 _ _ (lo52_w64 hand)) _ hb89).mono ?_
          rintro e w' ⟨rfl, rfl⟩
          rw [HP3.out]
          go_wp2_with fail
          go_ret
          exact ⟨rfl, hBr.trans (hb89.mono hBr.size)⟩
end Go.Proofs.YthilcnhnfdddhaaDoor
