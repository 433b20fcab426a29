/- RqC, RqD, RqE in one text. -/
import Derived.Test.YtginbellakkliaaDoorMRqa

/- The reference of chapter 12 over this seat's program: seat, Turn, Chooser, Hand. -/
namespace Go.Proofs.YtginbellakkliaaDoor
open Go.RowKit Go.Shelf Go.Sort Go.Maps Go.WideMaps
attribute [local go_sem] Oper.semAt_some

def Rp.chooser (r : Rp) : Nat × Nat := if r.turn.2 = 0 ∧ r.turn.1 = (r.dc + 2) % 4 then (r.dc, 0) else r.turn
/-- a hand without a card, if it has it -/
def takeC (m c : Nat) : Nat := if m.testBit c then m - 2 ^ c else m
def takeAll (m : Nat) (l : List Nat) : Nat := l.foldl takeC m
theorem takeAll_app (m : Nat) (l : List Nat) (c : Nat) : takeAll m (l ++ [c]) = takeC (takeAll m l) c := by unfold takeAll; rw [List.foldl_append]; rfl
theorem takeC_w64 {m : Nat} (h : W64 m) (c : Nat) : W64 (takeC m c) := by
  unfold takeC
  split
  · exact Nat.lt_of_le_of_lt (Nat.sub_le _ _) h
  · exact h
theorem takeAll_w64 {m : Nat} (h : W64 m) (l : List Nat) : W64 (takeAll m l) := by
  unfold takeAll
  induction l generalizing m with
  | nil => exact h
  | cons c l ih => exact ih (takeC_w64 h c)
def Rp.hand (r : Rp) (s : Nat) : Nat := if s ≤ 3 then takeAll (r.d s) r.cs else 0
set_option maxHeartbeats 4000000 in
set_option maxRecDepth 10000 in
theorem rq_seat (r : Rp) (hr : r.ok) (a : Option Addr) (cap : Nat) (vb : Value) (w : World) (hz : Byt w a r.cs.length r.cs) (hcap : r.cs.length ≤ cap) :
    Calls Tryd.prog 85 #[.agg (r.cells (.slice a r.cs.length cap) vb), .int .i64 (r.cs.length : Int)] w fun e w' => e = .returned (.int .u8 ((((r.ldr (r.cs.length / 4) + r.cs.length % 4) % 4 : Nat)) : Int)) ∧ Below w.heap.size w w' := by
  have HLS := Lib.hid (fun W (hzW : Byt W a r.cs.length r.cs) => rq_Leaders r hr a cap vb W hzW hcap)
  have h52 := hr.len
  obtain ⟨y, hy⟩ : ∃ y, (r.ldr (r.cs.length / 4) + r.cs.length % 4) % 4 = y := ⟨_, rfl⟩
  have HYE := Lib.hid hy
  rw [hy]
  clear hy
  have HYZ := Lib.hid hz
  have HR := Lib.hid (Row.new w 71 (r.cells (.slice a r.cs.length cap) vb))
  have HB := Lib.hid ((Below.refl w.heap.size w).alloc (Nat.le_refl _) (.cells (r.cells (.slice a r.cs.length cap) vb) 71))
  have HY1 := Lib.hid (hz.below (Nat.le_refl _) HB.out)
  obtain ⟨PA, hPA⟩ : ∃ A, r.cells (.slice a r.cs.length cap) vb = A := ⟨_, rfl⟩
  have HPZ : Hid (PA.size = 10) := Lib.hid (by rw [← hPA]; rfl)
  have HPE := Lib.hid hPA
  rw [hPA] at HR HB HY1 ⊢
  clear hPA hz hcap hr
  go_enter Tryd.func85, Tryd.ntmps85
  go_upto_region 1 with fail
  show Code.wp _ _ _ _ (w.alloc (.cells PA 71))
  generalize w.alloc (.cells PA 71) = w1 at *
  obtain ⟨b, hb⟩ : ∃ b, w.heap.size = b := ⟨_, rfl⟩
  have HBE := Lib.hid hb
  rw [hb] at HR ⊢
  clear hb
  rw [HPE.out] at HLS
  go_wp2_with (refine wpList_load_row rfl 71 (.tmp 2) rfl b rfl 71 PA (0, 0) _ HR.out Tryd.underlying71 rfl (by rw [HPZ.out]; exact size_rp) ?_)
  refine (HLS.out _ HY1.out).mono ?_
  rintro e w2 ⟨v, rfl, hown, hb2⟩
  have HB2 := Lib.hid (HB.out.trans (hb2.mono HB.out.size))
  have hln := lds_len r
  obtain ⟨g, c, rfl⟩ : ∃ g c, v = .slice (some ⟨g, 0, none⟩) r.lds.length c := by
    obtain ⟨v2, c2, hve, hvs⟩ := hown.slice
    obtain ⟨g, rfl⟩ := hvs (by intro e; rw [e] at hln; simp at hln)
    exact ⟨g, c2, hve⟩
  have ek : w2.cell? ⟨g, (r.cs.length / 4), none⟩ = some (.int .u8 (r.ldr (r.cs.length / 4) : Int)) := by
    have := hown.cell (r.cs.length / 4) 0 (by decide) (lds_get r (Nat.le_refl _))
    rw [Nat.mul_one, Nat.add_zero] at this
    exact this
  have hl4 := r.ldr_lt (r.cs.length / 4)
  rw [hln]
  clear hown hb2 HLS HY1 HYZ HR HPE
  have hy := HYE.out
  obtain ⟨x, hx⟩ : ∃ x, r.ldr (r.cs.length / 4) = x := ⟨_, rfl⟩
  rw [hx] at ek hl4 hy
  obtain ⟨n, hn⟩ : ∃ n, r.cs.length = n := ⟨_, rfl⟩
  rw [hn] at ek h52 hy ⊢
  obtain ⟨k, hk⟩ : ∃ k, n / 4 = k := ⟨_, rfl⟩
  obtain ⟨m, hm⟩ : ∃ m, n % 4 = m := ⟨_, rfl⟩
  rw [hk] at ek ⊢
  rw [hm] at hy
  have hm4 : m < 4 := by omega
  have e1 : (n : Int).tdiv 4 = (k : Int) := by rw [Int.tdiv_eq_ediv_of_nonneg (by omega)]; omega
  have e1' : (n : Int) / 4 = (k : Int) := by omega
  have e2 : (n : Int).tmod 4 = (m : Int) := by rw [Int.tmod_eq_emod_of_nonneg (by omega)]; omega
  have e2' : (n : Int) % 4 = (m : Int) := by omega
  have e3 : ((x : Int) + (m : Int)).tmod 4 = (y : Int) := by rw [Int.tmod_eq_emod_of_nonneg (by omega)]; omega
  have e3' : ((x : Int) + (m : Int)) % 4 = (y : Int) := by omega
  have e4 : IntKind.u8.wrap (y : Int) = (y : Int) := by rw [IntKind.wrap_u8]; omega
  have hki : (k : Int) < ((k + 1 : Nat) : Int) := by omega
  have HBF := Lib.hid HB2.out
  clear hn hk hm hy hx HB HB2
  go_wp2_with fail
  go_ret
  exact ⟨rfl, HBF.out⟩
set_option maxHeartbeats 4000000 in
set_option maxRecDepth 10000 in
theorem rq_Turn (r : Rp) (hr : r.ok) (a : Option Addr) (cap : Nat) (vb : Value) (w : World) (hz : Byt w a r.cs.length r.cs) (hcap : r.cs.length ≤ cap) :
    Calls Tryd.prog 67 #[.agg (r.cells (.slice a r.cs.length cap) vb)] w fun e w' => e = .returned (.tuple #[.int .u8 (r.turn.1 : Int), .int .i64 (r.turn.2 : Int)]) ∧ Below w.heap.size w w' := by
  have HOV := Lib.hid (fun W => rq_Over r hr a cap vb W)
  have HST := Lib.hid (fun W (hzW : Byt W a r.cs.length r.cs) => rq_seat r hr a cap vb W hzW hcap)
  have HT : Hid (r.turn = if r.over then (0, 121) else ((r.ldr (r.cs.length / 4) + r.cs.length % 4) % 4, 0)) := Lib.hid rfl
  obtain ⟨t, ht⟩ : ∃ t, r.turn = t := ⟨_, rfl⟩
  obtain ⟨o, ho⟩ : ∃ o, r.over = o := ⟨_, rfl⟩
  rw [ho] at HOV HT
  rw [ht] at HT ⊢
  obtain ⟨y, hy⟩ : ∃ y, (r.ldr (r.cs.length / 4) + r.cs.length % 4) % 4 = y := ⟨_, rfl⟩
  rw [hy] at HST HT
  clear ht ho hy
  have HYZ := Lib.hid hz
  have HR := Lib.hid (Row.new w 71 (r.cells (.slice a r.cs.length cap) vb))
  have HB := Lib.hid ((Below.refl w.heap.size w).alloc (Nat.le_refl _) (.cells (r.cells (.slice a r.cs.length cap) vb) 71))
  have HY1 := Lib.hid (hz.below (Nat.le_refl _) HB.out)
  obtain ⟨PA, hPA⟩ : ∃ A, r.cells (.slice a r.cs.length cap) vb = A := ⟨_, rfl⟩
  have HPZ : Hid (PA.size = 10) := Lib.hid (by rw [← hPA]; rfl)
  have HPE := Lib.hid hPA
  rw [hPA] at HR HB HY1 ⊢
  clear hPA hz hcap hr
  go_enter Tryd.func67, Tryd.ntmps67
  go_upto_region 1 with fail
  show Code.wp _ _ _ _ (w.alloc (.cells PA 71))
  generalize w.alloc (.cells PA 71) = w1 at *
  obtain ⟨b, hb⟩ : ∃ b, w.heap.size = b := ⟨_, rfl⟩
  have HBE := Lib.hid hb
  rw [hb] at HR ⊢
  clear hb
  rw [HPE.out] at HOV HST
  obtain ⟨n, hn⟩ : ∃ n, r.cs.length = n := ⟨_, rfl⟩
  rw [hn] at HST HY1 HPE
  clear hn
  go_wp2_with (refine wpList_load_row rfl 71 (.tmp 1) rfl b rfl 71 PA (0, 0) _ HR.out Tryd.underlying71 rfl (by rw [HPZ.out]; exact size_rp) ?_)
  refine (HOV.out _).mono ?_
  rintro e w2 ⟨rfl, hb2⟩
  have HB2 := Lib.hid (HB.out.trans (hb2.mono HB.out.size))
  have HR2 := Lib.hid (HR.out.later hb2)
  have HY2 := Lib.hid (HY1.out.below (Nat.le_refl _) hb2)
  clear hb2 HOV HR HY1
  cases o
  · have c8 : w2.cell? ⟨b, 8, none⟩ = some (.slice a n cap) := by rw [HR2.out.cell 8, ← HPE.out]; rfl
    go_wp2_with (refine wpList_load_row rfl 71 (.tmp 1) rfl b rfl 71 PA (0, 0) _ HR2.out Tryd.underlying71 rfl (by rw [HPZ.out]; exact size_rp) ?_)
    refine (HST.out _ HY2.out).mono ?_
    rintro e w3 ⟨rfl, hb3⟩
    have HB3 := Lib.hid (HB2.out.trans (hb3.mono HB2.out.size))
    clear hb3 c8
    go_wp2_with fail
    go_ret2
    exact ⟨by rw [HT.out]; rfl, HB3.out⟩
  · go_wp2_with fail
    go_ret2
    exact ⟨by rw [HT.out]; rfl, HB2.out⟩
set_option maxHeartbeats 4000000 in
set_option maxRecDepth 10000 in
theorem rq_Chooser (r : Rp) (hr : r.ok) (a : Option Addr) (cap : Nat) (vb : Value) (w : World) (hz : Byt w a r.cs.length r.cs) (hcap : r.cs.length ≤ cap) :
    Calls Tryd.prog 68 #[.agg (r.cells (.slice a r.cs.length cap) vb)] w fun e w' => e = .returned (.tuple #[.int .u8 (r.chooser.1 : Int), .int .i64 (r.chooser.2 : Int)]) ∧ Below w.heap.size w w' := by
  have HTU := Lib.hid (fun W (hzW : Byt W a r.cs.length r.cs) => rq_Turn r hr a cap vb W hzW hcap)
  have HT : Hid (r.chooser = if r.turn.2 = 0 ∧ r.turn.1 = (r.dc + 2) % 4 then (r.dc, 0) else r.turn) := Lib.hid rfl
  have hdc := hr.dc
  have ht4 : r.turn.1 < 4 := by unfold Rp.turn; split <;> simp <;> omega
  obtain ⟨q, hq⟩ : ∃ t, r.chooser = t := ⟨_, rfl⟩
  rw [hq] at HT ⊢
  obtain ⟨t1, t2, ht⟩ : ∃ t1 t2, r.turn = (t1, t2) := ⟨_, _, rfl⟩
  rw [ht] at HTU HT ht4
  dsimp only at HTU HT ht4
  obtain ⟨m, hm⟩ : ∃ m, (r.dc + 2) % 4 = m := ⟨_, rfl⟩
  rw [hm] at HT
  have e1 : ((r.dc : Int) + 2).tmod 4 = (m : Int) := by rw [Int.tmod_eq_emod_of_nonneg (by omega)]; omega
  have e1' : ((r.dc : Int) + 2) % 4 = (m : Int) := by omega
  have e2 : IntKind.u8.wrap ((r.dc : Int) + 2) = (r.dc : Int) + 2 := by rw [IntKind.wrap_u8]; omega
  have e3 : IntKind.u8.wrap (m : Int) = (m : Int) := by rw [IntKind.wrap_u8]; omega
  clear hq ht hm
  have HYZ := Lib.hid hz
  have HR := Lib.hid (Row.new w 71 (r.cells (.slice a r.cs.length cap) vb))
  have HB := Lib.hid ((Below.refl w.heap.size w).alloc (Nat.le_refl _) (.cells (r.cells (.slice a r.cs.length cap) vb) 71))
  have HY1 := Lib.hid (hz.below (Nat.le_refl _) HB.out)
  obtain ⟨PA, hPA⟩ : ∃ A, r.cells (.slice a r.cs.length cap) vb = A := ⟨_, rfl⟩
  have HPZ : Hid (PA.size = 10) := Lib.hid (by rw [← hPA]; rfl)
  have HPE := Lib.hid hPA
  rw [hPA] at HR HB HY1 ⊢
  clear hPA hz hcap hr
  go_enter Tryd.func68, Tryd.ntmps68
  go_upto_region 1 with fail
  show Code.wp _ _ _ _ (w.alloc (.cells PA 71))
  generalize w.alloc (.cells PA 71) = w1 at *
  obtain ⟨b, hb⟩ : ∃ b, w.heap.size = b := ⟨_, rfl⟩
  have HBE := Lib.hid hb
  rw [hb] at HR ⊢
  clear hb
  rw [HPE.out] at HTU
  go_wp2_with (refine wpList_load_row rfl 71 (.tmp 1) rfl b rfl 71 PA (0, 0) _ HR.out Tryd.underlying71 rfl (by rw [HPZ.out]; exact size_rp) ?_)
  refine (HTU.out _ HY1.out).mono ?_
  rintro e w2 ⟨rfl, hb2⟩
  have HB2 := Lib.hid (HB.out.trans (hb2.mono HB.out.size))
  have HR2 := Lib.hid (HR.out.later hb2)
  have c7 : w2.cell? ⟨b, 7, none⟩ = some (.int .u8 (r.dc : Int)) := by rw [HR2.out.cell 7, ← HPE.out]; rfl
  clear hb2 HTU HR HY1
  by_cases h0 : t2 = 0
  · subst h0
    by_cases h1 : t1 = m
    · have hb1 : ((t1 : Int) == (m : Int)) = true := by rw [beq_iff_eq]; omega
      have HT2 := Lib.hid (HT.out.trans (if_pos ⟨rfl, h1⟩))
      clear h1
      go_wp2_with fail
      go_ret2
      exact ⟨by rw [HT2.out]; rfl, HB2.out⟩
    · have hb1 : ((t1 : Int) == (m : Int)) = false := by rw [beq_eq_false_iff_ne]; omega
      have HT2 := Lib.hid (HT.out.trans (if_neg (fun h => h1 h.2)))
      clear h1
      go_wp2_with fail
      go_ret2
      exact ⟨by rw [HT2.out]; rfl, HB2.out⟩
  · have hb0 : ((t2 : Int) == 0) = false := by rw [beq_eq_false_iff_ne]; omega
    have HT2 := Lib.hid (HT.out.trans (if_neg (fun h => h0 h.1)))
    clear h0
    go_wp2_with fail
    go_ret2
    exact ⟨by rw [HT2.out]; rfl, HB2.out⟩
set_option maxHeartbeats 4000000 in
set_option maxRecDepth 10000 in
theorem rq_Hand (r : Rp) (hr : r.ok) (a : Option Addr) (cap : Nat) (vb : Value) (w : World) (hz : Byt w a r.cs.length r.cs) (hcap : r.cs.length ≤ cap) (s : Nat) (hs : s < 256) :
    Calls Tryd.prog 74 #[.agg (r.cells (.slice a r.cs.length cap) vb), .int .u8 (s : Int)] w fun e w' => e = .returned (.int .u64 (r.hand s : Int)) ∧ Below w.heap.size w w' := by
  have HH : Hid (r.hand s = if s ≤ 3 then takeAll (r.d s) r.cs else 0) := Lib.hid rfl
  have HW := Lib.hid (hr.d s)
  have h52 := hr.len
  have hcp := hcap
  have HYZ := Lib.hid hz
  have HR := Lib.hid (Row.new w 71 (r.cells (.slice a r.cs.length cap) vb))
  have HB := Lib.hid ((Below.refl w.heap.size w).alloc (Nat.le_refl _) (.cells (r.cells (.slice a r.cs.length cap) vb) 71))
  have HY1 := Lib.hid (hz.below (Nat.le_refl _) HB.out)
  obtain ⟨PA, hPA⟩ : ∃ A, r.cells (.slice a r.cs.length cap) vb = A := ⟨_, rfl⟩
  have HPZ : Hid (PA.size = 10) := Lib.hid (by rw [← hPA]; rfl)
  have HPE := Lib.hid hPA
  rw [hPA] at HR HB HY1 ⊢
  clear hPA hz hcap hr
  go_enter Tryd.func74, Tryd.ntmps74
  go_upto_region 1 with fail
  show Code.wp _ _ _ _ (w.alloc (.cells PA 71))
  generalize w.alloc (.cells PA 71) = w1 at *
  obtain ⟨b, hb⟩ : ∃ b, w.heap.size = b := ⟨_, rfl⟩
  have HBE := Lib.hid hb
  rw [hb] at HR ⊢
  clear hb
  by_cases h3 : s ≤ 3
  · have hd3 : decide ((s : Int) > 3) = false := by rw [decide_eq_false_iff_not]; omega
    have HF := Lib.hid (HH.out.trans (if_pos h3))
    have cs : w1.cell? ⟨b, s, none⟩ = some (.int .u64 (r.d s : Int)) := by
      rw [HR.out.cell s, ← HPE.out]
      rcases (show s = 0 ∨ s = 1 ∨ s = 2 ∨ s = 3 by omega) with rfl | rfl | rfl | rfl <;> rfl
    have hs4 : (s : Int) < 4 := by omega
    obtain ⟨n, hn⟩ : ∃ n, r.cs.length = n := ⟨_, rfl⟩
    have HN := Lib.hid hn
    rw [hn] at h52 HY1 HPE
    clear hn HH
    go_upto_region 5 with fail
    clear cs
    try dsimp only [Act.put]
    go_loopg [5, 6] n (fun g mv iv wr => ∃ (i : Nat), g = n - i ∧ i ≤ n ∧ iv = .int .i64 (i : Int) ∧ mv = .int .u64 (takeAll (r.d s) (r.cs.take i) : Int) ∧ wr = w1)
    case atStart => exact ⟨0, rfl, by omega, rfl, rfl, rfl⟩
    case round =>
      obtain ⟨i, rfl, hi, rfl, rfl, rfl⟩ := hrel
      have c8 : wr.cell? ⟨b, 8, none⟩ = some (.slice a n cap) := by rw [HR.out.cell 8, ← HPE.out]; rfl
      by_cases hlt : i < n
      · have hd : decide (i < n) = true := by simp; omega
        have hiI : (i : Int) < (n : Int) := by omega
        obtain ⟨bb, off, hae, hbs, hcs⟩ := HY1.out.at (by omega)
        have ek := hcs i hlt
        have hc256 := HY1.out.byte i
        have HTK : Hid (takeAll (r.d s) (r.cs.take (i + 1)) = takeC (takeAll (r.d s) (r.cs.take i)) (r.cs.getD i 0)) := Lib.hid (by
          rw [List.take_add_one, List.getElem?_eq_getElem (show i < r.cs.length by rw [HN.out]; exact hlt), show (some (r.cs[i]'(by rw [HN.out]; exact hlt))).toList = [r.cs[i]'(by rw [HN.out]; exact hlt)] from rfl, takeAll_app, List.getD_eq_getElem?_getD, List.getElem?_eq_getElem (show i < r.cs.length by rw [HN.out]; exact hlt)]
          rfl)
        have HWM : Hid (W64 (takeAll (r.d s) (r.cs.take i))) := Lib.hid (takeAll_w64 HW.out _)
        obtain ⟨m, hm⟩ : ∃ m, takeAll (r.d s) (r.cs.take i) = m := ⟨_, rfl⟩
        obtain ⟨c, hc⟩ : ∃ c, r.cs.getD i 0 = c := ⟨_, rfl⟩
        rw [hm] at HTK HWM ⊢
        rw [hc] at ek hc256 HTK
        have HHAS := Lib.hid (ref_Has m c wr HWM.out)
        subst hae
        clear hm hc hcs hbs
        cases hbt : m.testBit c
        · have HT2 : Hid (takeC m c = m) := Lib.hid (by unfold takeC; rw [hbt]; rfl)
          rw [hbt] at HHAS
          clear hbt
          go_wp2_with fail
          refine HHAS.out.mono ?_
          rintro e w2 ⟨rfl, rfl⟩
          go_wp2_with fail
          go_roundg (n - (i + 1))
          case measure => omega
          case rel => exact ⟨i + 1, rfl, by omega, by go_num, by rw [HTK.out, HT2.out], rfl⟩
        · have hc64 : c < 64 := y_bit_lt (n := 64) HWM.out hbt
          have h2 : 2 ^ c ≤ m := Nat.ge_two_pow_of_testBit hbt
          have HT2 : Hid (takeC m c = m - 2 ^ c) := Lib.hid (by unfold takeC; rw [hbt]; rfl)
          have hse : shl1 c = 2 ^ c := z_shl1_pow hc64
          have hmw := HWM.out
          unfold W64 at hmw
          rw [← hse] at h2 HT2
          obtain ⟨p, hp⟩ : ∃ p, shl1 c = p := ⟨_, rfl⟩
          rw [hp] at h2 HT2
          have HSHL : Hid (IntKind.u64.wrap ((m : Int) - ((shl1 c : Nat) : Int)) = ((m - p : Nat) : Int)) := Lib.hid (by rw [hp, IntKind.wrap_u64]; omega)
          rw [hbt] at HHAS
          clear hbt hp hse hmw h2
          go_wp2_with fail
          refine HHAS.out.mono ?_
          rintro e w2 ⟨rfl, rfl⟩
          go_wp2_with fail
          go_roundg (n - (i + 1))
          case measure => omega
          case rel => exact ⟨i + 1, rfl, by omega, by go_num, by rw [HTK.out, HT2.out, HSHL.out], rfl⟩
      · have hin : i = n := by omega
        have hd : decide (i < n) = false := by simp; omega
        have HTF : Hid (takeAll (r.d s) (r.cs.take i) = r.hand s) := Lib.hid (by rw [HF.out, List.take_of_length_le (by rw [HN.out]; omega)])
        clear hin
        rw [HTF.out]
        go_wp2_with fail
        go_ret
        exact ⟨rfl, HB.out⟩
  · have hd3 : decide ((s : Int) > 3) = true := by rw [decide_eq_true_eq]; omega
    have HF := Lib.hid (HH.out.trans (if_neg h3))
    clear h3
    go_wp2_with fail
    go_ret
    exact ⟨by rw [HF.out]; rfl, HB.out⟩
end Go.Proofs.YtginbellakkliaaDoor

/- The reference of chapter 12 over this seat's program: Trick, Legal, Tricks, Result. -/
namespace Go.Proofs.YtginbellakkliaaDoor
open Go.RowKit Go.Shelf Go.Sort Go.Maps Go.WideMaps
attribute [local go_sem] Oper.semAt_some

theorem byt_nilR (W : World) : Byt W none 0 [] := ⟨rfl, by omega, fun i => by simp, .inl rfl⟩
theorem cut_runR (a : Option Addr) (k cap l : Nat) (zs : List Nat) (w : World) (hl : l ≤ k) (hkc : k ≤ cap) (hb : Byt w a k zs) :
    ∃ a', (∀ wx, (Instr.slice 22 (.slice a k cap) (some (.int .i64 (l : Int))) none none).run Tryd.prog wx = .ok (.slice a' (k - l) (cap - l)) wx) ∧ Byt w a' (k - l) (zs.drop l) ∧ (∀ ad, a' = some ad → ∃ ad0, a = some ad0 ∧ ad.block = ad0.block) := by
  have hsz : ∀ wx, (sizeOf (Tryd.prog.elem 22)).run Tryd.prog wx = .ok 1 wx := by intro wx; kernel_rfl
  refine ⟨if cap = l then a else a.map (·.add (l * 1)), fun wx => ?_, ?_, ?_⟩
  · rw [run_slice_l wx 22 a k cap (by kernel_rfl) _ _ (by omega) (by omega), hsz]
    simp [Result.andThen, sliced]
  · refine ⟨by rw [List.length_drop, hb.length], by have := hb.small; omega, fun i => ?_, ?_⟩
    · have := hb.byte (l + i)
      rw [List.getD_eq_getElem?_getD] at this ⊢
      rwa [List.getElem?_drop]
    · rcases Nat.lt_or_ge l k with hlt | hge
      · right
        obtain ⟨b, off, rfl, hbs, hcs⟩ := hb.at (by omega)
        rw [if_neg (by omega : ¬ cap = l)]
        refine ⟨b, off + l, by simp [Addr.add], hbs, fun i hi => ?_⟩
        have := hcs (l + i) (by omega)
        rw [List.getD_eq_getElem?_getD] at this ⊢
        rw [List.getElem?_drop, Nat.add_assoc]
        exact this
      · left; omega
  · intro ad he
    cases a with
    | none => split at he <;> simp at he
    | some ad0 =>
      refine ⟨ad0, rfl, ?_⟩
      split at he
      · injection he with e; rw [e]
      · simp at he; rw [← he]; simp only [Addr.add]; split <;> rfl
def Rp.trLd (r : Rp) : Nat := if r.over then 0 else r.ldr (r.cs.length / 4)
def Rp.trCs (r : Rp) : List Nat := if r.over then [] else r.cs.drop (4 * (r.cs.length / 4))
def Rp.legal (r : Rp) : Nat := if r.turn.2 ≠ 0 then 0 else (playableV (r.hand r.turn.1) r.trCs).1
/-- tricks of the first k that side s won -/
def Rp.wonTo (r : Rp) (s : Nat) : Nat → Nat
  | 0 => 0
  | k + 1 => r.wonTo s k + (if r.ldr (k + 1) % 2 = s then 1 else 0)
theorem Rp.wonTo_le (r : Rp) (s : Nat) : ∀ k, r.wonTo s k ≤ k
  | 0 => Nat.le_refl _
  | k + 1 => by have := r.wonTo_le s k; unfold Rp.wonTo; split <;> omega
def Rp.result (r : Rp) : Nat × Nat := if r.over then (r.wonTo (r.dc % 2) (r.cs.length / 4), 0) else (0, 123)
set_option maxHeartbeats 4000000 in
set_option maxRecDepth 10000 in
theorem rq_Trick (r : Rp) (hr : r.ok) (a : Option Addr) (cap : Nat) (vb : Value) (w : World) (hz : Byt w a r.cs.length r.cs) (hcap : r.cs.length ≤ cap) :
    Calls Tryd.prog 69 #[.agg (r.cells (.slice a r.cs.length cap) vb)] w fun e w' => ∃ a' c', e = .returned (.tuple #[.int .u8 (r.trLd : Int), .slice a' r.trCs.length c']) ∧ Byt w' a' r.trCs.length r.trCs ∧ Below w.heap.size w w' := by
  have HOV := Lib.hid (fun W => rq_Over r hr a cap vb W)
  have HLS := Lib.hid (fun W (hzW : Byt W a r.cs.length r.cs) => rq_Leaders r hr a cap vb W hzW hcap)
  have HT1 : Hid (r.trLd = if r.over then 0 else r.ldr (r.cs.length / 4)) := Lib.hid rfl
  have HT2 : Hid (r.trCs = if r.over then [] else r.cs.drop (4 * (r.cs.length / 4))) := Lib.hid rfl
  have h52 := hr.len
  have hcp := hcap
  obtain ⟨tl, htl⟩ : ∃ t, r.trLd = t := ⟨_, rfl⟩
  obtain ⟨tc, htc⟩ : ∃ t, r.trCs = t := ⟨_, rfl⟩
  obtain ⟨o, ho⟩ : ∃ o, r.over = o := ⟨_, rfl⟩
  rw [ho] at HOV HT1 HT2
  rw [htl] at HT1 ⊢
  rw [htc] at HT2 ⊢
  clear htl htc ho
  have HYZ := Lib.hid hz
  have HR := Lib.hid (Row.new w 71 (r.cells (.slice a r.cs.length cap) vb))
  have HB := Lib.hid ((Below.refl w.heap.size w).alloc (Nat.le_refl _) (.cells (r.cells (.slice a r.cs.length cap) vb) 71))
  have HY1 := Lib.hid (hz.below (Nat.le_refl _) HB.out)
  obtain ⟨PA, hPA⟩ : ∃ A, r.cells (.slice a r.cs.length cap) vb = A := ⟨_, rfl⟩
  have HPZ : Hid (PA.size = 10) := Lib.hid (by rw [← hPA]; rfl)
  have HPE := Lib.hid hPA
  rw [hPA] at HR HB HY1 ⊢
  clear hPA hz hcap hr
  go_enter Tryd.func69, Tryd.ntmps69
  go_upto_region 1 with fail
  show Code.wp _ _ _ _ (w.alloc (.cells PA 71))
  generalize w.alloc (.cells PA 71) = w1 at *
  obtain ⟨b, hb⟩ : ∃ b, w.heap.size = b := ⟨_, rfl⟩
  have HBE := Lib.hid hb
  rw [hb] at HR ⊢
  clear hb
  rw [HPE.out] at HOV HLS
  go_wp2_with (refine wpList_load_row rfl 71 (.tmp 1) rfl b rfl 71 PA (0, 0) _ HR.out Tryd.underlying71 rfl (by rw [HPZ.out]; exact size_rp) ?_)
  refine (HOV.out _).mono ?_
  rintro e w2 ⟨rfl, hb2⟩
  have HB2 := Lib.hid (HB.out.trans (hb2.mono HB.out.size))
  have HR2 := Lib.hid (HR.out.later hb2)
  have HY2 := Lib.hid (HY1.out.below (Nat.le_refl _) hb2)
  clear hb2 HOV HR HY1
  cases o
  · go_wp2_with (refine wpList_load_row rfl 71 (.tmp 1) rfl b rfl 71 PA (0, 0) _ HR2.out Tryd.underlying71 rfl (by rw [HPZ.out]; exact size_rp) ?_)
    refine (HLS.out _ HY2.out).mono ?_
    rintro e w3 ⟨v, rfl, hown, hb3⟩
    have HB3 := Lib.hid (HB2.out.trans (hb3.mono HB2.out.size))
    have HR3 := Lib.hid (HR2.out.later hb3)
    have HY3 := Lib.hid (HY2.out.below (Nat.le_refl _) hb3)
    have hln := lds_len r
    obtain ⟨g, c, rfl⟩ : ∃ g c, v = .slice (some ⟨g, 0, none⟩) r.lds.length c := by
      obtain ⟨v2, c2, hve, hvs⟩ := hown.slice
      obtain ⟨g, rfl⟩ := hvs (by intro e; rw [e] at hln; simp at hln)
      exact ⟨g, c2, hve⟩
    have ek : w3.cell? ⟨g, (r.cs.length / 4), none⟩ = some (.int .u8 (r.ldr (r.cs.length / 4) : Int)) := by
      have := hown.cell (r.cs.length / 4) 0 (by decide) (lds_get r (Nat.le_refl _))
      rw [Nat.mul_one, Nat.add_zero] at this
      exact this
    rw [hln]
    clear hown hb3 HLS
    have htl := HT1.out
    have htc := HT2.out
    rw [if_neg (by decide)] at htl htc
    obtain ⟨x, hx⟩ : ∃ x, r.ldr (r.cs.length / 4) = x := ⟨_, rfl⟩
    rw [hx] at ek htl
    obtain ⟨n, hn⟩ : ∃ n, r.cs.length = n := ⟨_, rfl⟩
    have HN := Lib.hid hn
    rw [hn] at ek h52 htc hcp HY3 HPE ⊢
    obtain ⟨k, hk⟩ : ∃ k, n / 4 = k := ⟨_, rfl⟩
    rw [hk] at ek htc ⊢
    obtain ⟨k1, hk1⟩ : ∃ z, k + 1 = z := ⟨_, rfl⟩
    rw [hk1]
    obtain ⟨k4, hk4⟩ : ∃ z, 4 * k = z := ⟨_, rfl⟩
    rw [hk4] at htc
    obtain ⟨a', hsl, hby, -⟩ := cut_runR a n cap k4 r.cs w3 (by omega) hcp HY3.out
    have hl2 : tc.length = n - k4 := by rw [htc, List.length_drop, HN.out]
    rw [← htc] at hby
    have HTL := Lib.hid htl
    have HBY := Lib.hid hby
    have HL2 := Lib.hid hl2
    have e1 : (n : Int).tdiv 4 = (k : Int) := by rw [Int.tdiv_eq_ediv_of_nonneg (by omega)]; omega
    have e1' : (n : Int) / 4 = (k : Int) := by omega
    have e2 : (4 : Int) * (k : Int) = (k4 : Int) := by omega
    have e3 : (k1 : Int) - 1 = (k : Int) := by omega
    have hki : (k : Int) < (k1 : Int) := by omega
    have hk0 : k1 ≤ 14 := by omega
    obtain ⟨nk, hnk⟩ : ∃ z, n - k4 = z := ⟨_, rfl⟩
    rw [hnk] at hsl HBY HL2
    have c8 : w3.cell? ⟨b, 8, none⟩ = some (.slice a n cap) := by rw [HR3.out.cell 8, ← HPE.out]; rfl
    have r8 := fun dd os => cell_regrown c8 dd os
    have rk := fun dd os => cell_regrown ek dd os
    clear hx hn hk hk1 hk4 htl hby hl2 htc HT1 HT2 hnk
    go_upto_region 4 with fail
    refine wp_region_quiet_below (by kernel_rfl) (by kernel_rfl) ?_
    repeat (first | go_big_quiet_step (fail) | quiet_step (fail))
    refine wpQuiet_nil ?_
    rintro _ ⟨qq, rfl⟩
    have hbq := below_regrown w3 qq.d qq.os
    have HBQ := Lib.hid (HB3.out.trans (hbq.mono HB3.out.size))
    have HYQ := Lib.hid (HBY.out.below (Nat.le_refl _) hbq)
    generalize grow (redrawn w3 qq.d) qq.os = w5 at *
    clear hbq c8 r8 ek rk hsl
    go_wp2_with fail
    go_ret2
    exact ⟨a', _, by rw [HTL.out, HL2.out]; rfl, by rw [HL2.out]; exact HYQ.out, HBQ.out⟩
  · have htl := HT1.out
    have htc := HT2.out
    rw [if_pos rfl] at htl htc
    have HTL := Lib.hid htl
    have HTC := Lib.hid htc
    clear htl htc
    go_wp2_with fail
    go_ret2
    exact ⟨none, 0, by rw [HTL.out, HTC.out]; rfl, by rw [HTC.out]; exact byt_nilR _, HB2.out⟩
set_option maxHeartbeats 4000000 in
set_option maxRecDepth 10000 in
theorem rq_Legal (r : Rp) (hr : r.ok) (a : Option Addr) (cap : Nat) (vb : Value) (w : World) (hz : Byt w a r.cs.length r.cs) (hcap : r.cs.length ≤ cap) :
    Calls Tryd.prog 55 #[.agg (r.cells (.slice a r.cs.length cap) vb)] w fun e w' => e = .returned (.int .u64 (r.legal : Int)) ∧ Below w.heap.size w w' := by
  have HTU := Lib.hid (fun W (hzW : Byt W a r.cs.length r.cs) => rq_Turn r hr a cap vb W hzW hcap)
  have HTK := Lib.hid (fun W (hzW : Byt W a r.cs.length r.cs) => rq_Trick r hr a cap vb W hzW hcap)
  have HHD := Lib.hid (fun W (hzW : Byt W a r.cs.length r.cs) (s : Nat) (hs : s < 256) => rq_Hand r hr a cap vb W hzW hcap s hs)
  have HL : Hid (r.legal = if r.turn.2 ≠ 0 then 0 else (playableV (r.hand r.turn.1) r.trCs).1) := Lib.hid rfl
  have ht4 : r.turn.1 < 4 := by unfold Rp.turn; split <;> simp <;> omega
  have HHW : Hid (W64 (r.hand r.turn.1)) := Lib.hid (by unfold Rp.hand; split; exact takeAll_w64 (hr.d _) _; unfold W64; omega)
  obtain ⟨L, hL⟩ : ∃ t, r.legal = t := ⟨_, rfl⟩
  rw [hL] at HL ⊢
  obtain ⟨t1, t2, ht⟩ : ∃ t1 t2, r.turn = (t1, t2) := ⟨_, _, rfl⟩
  rw [ht] at HTU HL ht4 HHW
  dsimp only at HTU HL ht4 HHW
  obtain ⟨tl, htl⟩ : ∃ t, r.trLd = t := ⟨_, rfl⟩
  obtain ⟨tc, htc⟩ : ∃ t, r.trCs = t := ⟨_, rfl⟩
  rw [htl, htc] at HTK
  rw [htc] at HL
  have HHD1 := Lib.hid (fun W hzW => HHD.out W hzW t1 (by omega))
  obtain ⟨hm, hhm⟩ : ∃ t, r.hand t1 = t := ⟨_, rfl⟩
  rw [hhm] at HHD1 HL HHW
  clear hL ht htl htc hhm HHD
  have HYZ := Lib.hid hz
  have HR := Lib.hid (Row.new w 71 (r.cells (.slice a r.cs.length cap) vb))
  have HB := Lib.hid ((Below.refl w.heap.size w).alloc (Nat.le_refl _) (.cells (r.cells (.slice a r.cs.length cap) vb) 71))
  have HY1 := Lib.hid (hz.below (Nat.le_refl _) HB.out)
  obtain ⟨PA, hPA⟩ : ∃ A, r.cells (.slice a r.cs.length cap) vb = A := ⟨_, rfl⟩
  have HPZ : Hid (PA.size = 10) := Lib.hid (by rw [← hPA]; rfl)
  have HPE := Lib.hid hPA
  rw [hPA] at HR HB HY1 ⊢
  clear hPA hz hcap hr
  go_enter Tryd.func55, Tryd.ntmps55
  go_upto_region 1 with fail
  show Code.wp _ _ _ _ (w.alloc (.cells PA 71))
  generalize w.alloc (.cells PA 71) = w1 at *
  obtain ⟨b, hb⟩ : ∃ b, w.heap.size = b := ⟨_, rfl⟩
  have HBE := Lib.hid hb
  rw [hb] at HR ⊢
  clear hb
  rw [HPE.out] at HTU HTK HHD1
  go_wp2_with (refine wpList_load_row rfl 71 (.tmp 1) rfl b rfl 71 PA (0, 0) _ HR.out Tryd.underlying71 rfl (by rw [HPZ.out]; exact size_rp) ?_)
  refine (HTU.out _ HY1.out).mono ?_
  rintro e w2 ⟨rfl, hb2⟩
  have HB2 := Lib.hid (HB.out.trans (hb2.mono HB.out.size))
  have HR2 := Lib.hid (HR.out.later hb2)
  have HY2 := Lib.hid (HY1.out.below (Nat.le_refl _) hb2)
  clear hb2 HTU HR HY1
  by_cases h0 : t2 = 0
  · subst h0
    have HL2 := Lib.hid (HL.out.trans (if_neg (fun h => h rfl)))
    go_wp2_with (refine wpList_load_row rfl 71 (.tmp 1) rfl b rfl 71 PA (0, 0) _ HR2.out Tryd.underlying71 rfl (by rw [HPZ.out]; exact size_rp) ?_)
    refine (HTK.out _ HY2.out).mono ?_
    rintro e w3 ⟨a', c', rfl, hby, hb3⟩
    have HB3 := Lib.hid (HB2.out.trans (hb3.mono HB2.out.size))
    have HR3 := Lib.hid (HR2.out.later hb3)
    have HY3 := Lib.hid (HY2.out.below (Nat.le_refl _) hb3)
    have HBY := Lib.hid hby
    clear hb3 hby
    go_wp2_with (refine wpList_load_row rfl 71 (.tmp 1) rfl b rfl 71 PA (0, 0) _ HR3.out Tryd.underlying71 rfl (by rw [HPZ.out]; exact size_rp) ?_)
    refine (HHD1.out _ HY3.out).mono ?_
    rintro e w4 ⟨rfl, hb4⟩
    have HB4 := Lib.hid (HB3.out.trans (hb4.mono HB3.out.size))
    have HPL := Lib.hid (ref_Playable hm a' tc.length c' tc w4 (HBY.out.below (Nat.le_refl _) hb4) HHW.out)
    clear hb4
    go_wp2_with fail
    refine HPL.out.mono ?_
    rintro e w5 ⟨rfl, hb5⟩
    have HB5 := Lib.hid (HB4.out.trans (hb5.mono HB4.out.size))
    clear hb5
    go_wp2_with fail
    go_ret
    exact ⟨by rw [HL2.out]; rfl, HB5.out⟩
  · have hb0 : ((t2 : Int) != 0) = true := by rw [bne_iff_ne]; omega
    have HL2 := Lib.hid (HL.out.trans (if_pos h0))
    clear h0
    go_wp2_with fail
    go_ret
    exact ⟨by rw [HL2.out]; rfl, HB2.out⟩
set_option maxHeartbeats 4000000 in
set_option maxRecDepth 10000 in
theorem rq_Tricks (r : Rp) (hr : r.ok) (a : Option Addr) (cap : Nat) (vb : Value) (w : World) (hz : Byt w a r.cs.length r.cs) (hcap : r.cs.length ≤ cap) :
    Calls Tryd.prog 71 #[.agg (r.cells (.slice a r.cs.length cap) vb)] w fun e w' => e = .returned (.tuple #[.int .i64 (r.wonTo 0 (r.cs.length / 4) : Int), .int .i64 (r.wonTo 1 (r.cs.length / 4) : Int)]) ∧ Below w.heap.size w w' := by
  have HLS := Lib.hid (fun W (hzW : Byt W a r.cs.length r.cs) => rq_Leaders r hr a cap vb W hzW hcap)
  have h52 := hr.len
  obtain ⟨M, hM⟩ : ∃ z, r.cs.length / 4 = z := ⟨_, rfl⟩
  have HM := Lib.hid hM
  rw [hM]
  have hM13 : M ≤ 13 := by omega
  clear hM
  have HYZ := Lib.hid hz
  have HR := Lib.hid (Row.new w 71 (r.cells (.slice a r.cs.length cap) vb))
  have HB := Lib.hid ((Below.refl w.heap.size w).alloc (Nat.le_refl _) (.cells (r.cells (.slice a r.cs.length cap) vb) 71))
  have HY1 := Lib.hid (hz.below (Nat.le_refl _) HB.out)
  obtain ⟨PA, hPA⟩ : ∃ A, r.cells (.slice a r.cs.length cap) vb = A := ⟨_, rfl⟩
  have HPZ : Hid (PA.size = 10) := Lib.hid (by rw [← hPA]; rfl)
  have HPE := Lib.hid hPA
  rw [hPA] at HR HB HY1 ⊢
  clear hPA hz hcap hr
  go_enter Tryd.func71, Tryd.ntmps71
  go_upto_region 1 with fail
  show Code.wp _ _ _ _ (w.alloc (.cells PA 71))
  generalize w.alloc (.cells PA 71) = w1 at *
  obtain ⟨b, hb⟩ : ∃ b, w.heap.size = b := ⟨_, rfl⟩
  have HBE := Lib.hid hb
  rw [hb] at HR ⊢
  clear hb
  rw [HPE.out] at HLS
  go_wp2_with (refine wpList_load_row rfl 71 (.tmp 1) rfl b rfl 71 PA (0, 0) _ HR.out Tryd.underlying71 rfl (by rw [HPZ.out]; exact size_rp) ?_)
  refine (HLS.out _ HY1.out).mono ?_
  rintro e w2 ⟨v, rfl, hown, hb2⟩
  have HB2 := Lib.hid (HB.out.trans (hb2.mono HB.out.size))
  have hln := lds_len r
  obtain ⟨g, c, rfl⟩ : ∃ g c, v = .slice (some ⟨g, 0, none⟩) r.lds.length c := by
    obtain ⟨v2, c2, hve, hvs⟩ := hown.slice
    obtain ⟨g, rfl⟩ := hvs (by intro e; rw [e] at hln; simp at hln)
    exact ⟨g, c2, hve⟩
  have hlen : r.lds.length = M + 1 := by rw [hln, HM.out]
  have HCK : Hid (∀ k, k ≤ M → w2.cell? ⟨g, k, none⟩ = some (.int .u8 (r.ldr k : Int))) := Lib.hid fun k hk => by
    have := hown.cell k 0 (by decide) (lds_get r (by rw [HM.out]; exact hk))
    rw [Nat.mul_one, Nat.add_zero] at this
    exact this
  rw [hlen]
  clear hown hb2 HLS HY1 HYZ HR hln hlen h52
  go_upto_region 4 with fail
  obtain ⟨N, hN⟩ : ∃ z, M + 1 = z := ⟨_, rfl⟩
  rw [hN]
  try dsimp only [Act.put]
  go_loopg [5, 6, 7] M (fun g nv ev iv wr => ∃ (i : Nat), g = M - i ∧ i + 1 ≤ N ∧ iv = .int .i64 ((i + 1 : Nat) : Int) ∧ nv = .int .i64 (r.wonTo 0 i : Int) ∧ ev = .int .i64 (r.wonTo 1 i : Int) ∧ wr = w2)
  case atStart => exact ⟨0, by omega, by omega, rfl, rfl, rfl, rfl⟩
  case round =>
    obtain ⟨i, rfl, hi, rfl, rfl, rfl, rfl⟩ := hrel
    obtain ⟨j, hj⟩ : ∃ z, i + 1 = z := ⟨_, rfl⟩
    rw [hj]
    by_cases hlt : j < N
    · have hd : decide (j < N) = true := by simp; omega
      have hjI : (j : Int) < (N : Int) := by omega
      have ek := HCK.out j (by omega)
      have hw0 := r.wonTo_le 0 i
      have hw1 := r.wonTo_le 1 i
      have HS0 : Hid (r.wonTo 0 j = r.wonTo 0 i + (if r.ldr j % 2 = 0 then 1 else 0)) := Lib.hid (by rw [← hj]; rfl)
      have HS1 : Hid (r.wonTo 1 j = r.wonTo 1 i + (if r.ldr j % 2 = 1 then 1 else 0)) := Lib.hid (by rw [← hj]; rfl)
      obtain ⟨x, hx⟩ : ∃ x, r.ldr j = x := ⟨_, rfl⟩
      rw [hx] at ek HS0 HS1
      obtain ⟨n0, hn0⟩ : ∃ x, r.wonTo 0 i = x := ⟨_, rfl⟩
      obtain ⟨n1, hn1⟩ : ∃ x, r.wonTo 1 i = x := ⟨_, rfl⟩
      rw [hn0] at HS0 hw0 ⊢
      rw [hn1] at HS1 hw1 ⊢
      obtain ⟨y, hy⟩ : ∃ y, x % 2 = y := ⟨_, rfl⟩
      rw [hy] at HS0 HS1
      have e1 : (x : Int).tmod 2 = (y : Int) := by rw [Int.tmod_eq_emod_of_nonneg (by omega)]; omega
      have e1' : (x : Int) % 2 = (y : Int) := by omega
      have e2 : IntKind.u8.wrap (y : Int) = (y : Int) := by rw [IntKind.wrap_u8]; omega
      have HYY : Hid (y = 0 ∨ y = 1) := Lib.hid (by omega)
      clear hx hn0 hn1 hy
      rcases HYY.out with h0 | h0
      · have hb0 : ((y : Int) == 0) = true := by rw [beq_iff_eq]; omega
        have HS0' : Hid (r.wonTo 0 j = n0 + 1) := Lib.hid (by rw [HS0.out, if_pos h0])
        have HS1' : Hid (r.wonTo 1 j = n1) := Lib.hid (by rw [HS1.out, if_neg (by omega)]; rfl)
        clear h0
        go_wp2_with fail
        go_roundg (M - j)
        case measure => omega
        case rel => exact ⟨j, rfl, by omega, by go_num, by rw [HS0'.out]; go_num, by rw [HS1'.out], rfl⟩
      · have hb0 : ((y : Int) == 0) = false := by rw [beq_eq_false_iff_ne]; omega
        have HS0' : Hid (r.wonTo 0 j = n0) := Lib.hid (by rw [HS0.out, if_neg (by omega)]; rfl)
        have HS1' : Hid (r.wonTo 1 j = n1 + 1) := Lib.hid (by rw [HS1.out, if_pos h0])
        clear h0
        go_wp2_with fail
        go_roundg (M - j)
        case measure => omega
        case rel => exact ⟨j, rfl, by omega, by go_num, by rw [HS0'.out], by rw [HS1'.out]; go_num, rfl⟩
    · have hd : decide (j < N) = false := by simp; omega
      have HE : Hid (i = M) := Lib.hid (by omega)
      rw [HE.out]
      go_wp2_with fail
      go_ret2
      exact ⟨rfl, HB2.out⟩
set_option maxHeartbeats 4000000 in
set_option maxRecDepth 10000 in
theorem rq_Result (r : Rp) (hr : r.ok) (a : Option Addr) (cap : Nat) (vb : Value) (w : World) (hz : Byt w a r.cs.length r.cs) (hcap : r.cs.length ≤ cap) :
    Calls Tryd.prog 72 #[.agg (r.cells (.slice a r.cs.length cap) vb)] w fun e w' => e = .returned (.tuple #[.int .i64 (r.result.1 : Int), .int .i64 (r.result.2 : Int)]) ∧ Below w.heap.size w w' := by
  have HOV := Lib.hid (fun W => rq_Over r hr a cap vb W)
  have HTR := Lib.hid (fun W (hzW : Byt W a r.cs.length r.cs) => rq_Tricks r hr a cap vb W hzW hcap)
  have HT : Hid (r.result = if r.over then (r.wonTo (r.dc % 2) (r.cs.length / 4), 0) else (0, 123)) := Lib.hid rfl
  have hdc := hr.dc
  obtain ⟨t, ht⟩ : ∃ t, r.result = t := ⟨_, rfl⟩
  obtain ⟨o, ho⟩ : ∃ o, r.over = o := ⟨_, rfl⟩
  rw [ho] at HOV HT
  rw [ht] at HT ⊢
  obtain ⟨m, hm⟩ : ∃ m, r.dc % 2 = m := ⟨_, rfl⟩
  have HMM : Hid (m = 0 ∨ m = 1) := Lib.hid (by omega)
  rw [hm] at HT
  have e1 : (r.dc : Int).tmod 2 = (m : Int) := by rw [Int.tmod_eq_emod_of_nonneg (by omega)]; omega
  have e1' : (r.dc : Int) % 2 = (m : Int) := by omega
  have e2 : IntKind.u8.wrap (m : Int) = (m : Int) := by rw [IntKind.wrap_u8]; omega
  clear ht ho hm
  have HYZ := Lib.hid hz
  have HR := Lib.hid (Row.new w 71 (r.cells (.slice a r.cs.length cap) vb))
  have HB := Lib.hid ((Below.refl w.heap.size w).alloc (Nat.le_refl _) (.cells (r.cells (.slice a r.cs.length cap) vb) 71))
  have HY1 := Lib.hid (hz.below (Nat.le_refl _) HB.out)
  obtain ⟨PA, hPA⟩ : ∃ A, r.cells (.slice a r.cs.length cap) vb = A := ⟨_, rfl⟩
  have HPZ : Hid (PA.size = 10) := Lib.hid (by rw [← hPA]; rfl)
  have HPE := Lib.hid hPA
  rw [hPA] at HR HB HY1 ⊢
  clear hPA hz hcap hr
  go_enter Tryd.func72, Tryd.ntmps72
  go_upto_region 1 with fail
  show Code.wp _ _ _ _ (w.alloc (.cells PA 71))
  generalize w.alloc (.cells PA 71) = w1 at *
  obtain ⟨b, hb⟩ : ∃ b, w.heap.size = b := ⟨_, rfl⟩
  have HBE := Lib.hid hb
  rw [hb] at HR ⊢
  clear hb
  rw [HPE.out] at HOV HTR
  go_wp2_with (refine wpList_load_row rfl 71 (.tmp 1) rfl b rfl 71 PA (0, 0) _ HR.out Tryd.underlying71 rfl (by rw [HPZ.out]; exact size_rp) ?_)
  refine (HOV.out _).mono ?_
  rintro e w2 ⟨rfl, hb2⟩
  have HB2 := Lib.hid (HB.out.trans (hb2.mono HB.out.size))
  have HR2 := Lib.hid (HR.out.later hb2)
  have HY2 := Lib.hid (HY1.out.below (Nat.le_refl _) hb2)
  clear hb2 HOV HR HY1
  cases o
  · have HT2 := Lib.hid (HT.out.trans (if_neg (by decide)))
    go_wp2_with fail
    go_ret2
    exact ⟨by rw [HT2.out]; rfl, HB2.out⟩
  · have HT2 := Lib.hid (HT.out.trans (if_pos rfl))
    go_wp2_with (refine wpList_load_row rfl 71 (.tmp 1) rfl b rfl 71 PA (0, 0) _ HR2.out Tryd.underlying71 rfl (by rw [HPZ.out]; exact size_rp) ?_)
    refine (HTR.out _ HY2.out).mono ?_
    rintro e w3 ⟨rfl, hb3⟩
    have HB3 := Lib.hid (HB2.out.trans (hb3.mono HB2.out.size))
    have HR3 := Lib.hid (HR2.out.later hb3)
    have c7 : w3.cell? ⟨b, 7, none⟩ = some (.int .u8 (r.dc : Int)) := by rw [HR3.out.cell 7, ← HPE.out]; rfl
    clear hb3 HTR
    rcases HMM.out with h0 | h0
    · subst h0
      go_wp2_with fail
      go_ret2
      exact ⟨by rw [HT2.out]; rfl, HB3.out⟩
    · subst h0
      go_wp2_with fail
      go_ret2
      exact ⟨by rw [HT2.out]; rfl, HB3.out⟩
end Go.Proofs.YtginbellakkliaaDoor

/- The reference of chapter 12 over this seat's program: Seen. -/
namespace Go.Proofs.YtginbellakkliaaDoor
open Go.RowKit Go.Shelf Go.Sort Go.Maps Go.WideMaps
attribute [local go_sem] Oper.semAt_some

theorem size_dealR : (Tryd.prog.info? 26).map (·.size) = some 4 := by kernel_rfl
theorem arr4_congrR {f g : Nat → Nat} (h : ∀ j, j < 4 → f j = g j) : arr4 f = arr4 g := by
  unfold arr4
  rw [h 0 (by decide), h 1 (by decide), h 2 (by decide), h 3 (by decide)]
theorem takeAll_le (m : Nat) (l : List Nat) : takeAll m l ≤ m := by
  unfold takeAll
  induction l generalizing m with
  | nil => exact Nat.le_refl _
  | cons c l ih => exact Nat.le_trans (ih (takeC m c)) (by unfold takeC; split; exact Nat.sub_le _ _; exact Nat.le_refl _)
theorem Rp.hand_lt (r : Rp) (hlt : ∀ j, r.d j < 4503599627370496) (s : Nat) : r.hand s < 4503599627370496 := by
  unfold Rp.hand
  split
  · exact Nat.lt_of_le_of_lt (takeAll_le _ _) (hlt s)
  · decide
/-- what is seen of seat i by seat s -/
def Rp.seenH (r : Rp) (s i : Nat) : Nat := if 3 < s then 0 else if i = s ∨ (i = (r.dc + 2) % 4 ∧ r.cs.length ≠ 0) then r.hand i else 0
/-- what is hidden of the first k -/
def Rp.hidTo (r : Rp) (s : Nat) : Nat → Nat
  | 0 => 0
  | k + 1 => if k = s ∨ (k = (r.dc + 2) % 4 ∧ r.cs.length ≠ 0) then r.hidTo s k else r.hidTo s k + r.hand k
def Rp.hid (r : Rp) (s : Nat) : Nat := if 3 < s then 0 else r.hidTo s 4
theorem Rp.hid_le (r : Rp) (hlt : ∀ j, r.d j < 4503599627370496) (s : Nat) (k : Nat) : r.hidTo s k ≤ k * 4503599627370496 := by
  induction k with
  | zero => exact Nat.zero_le _
  | succ k ih =>
    have h2 := r.hand_lt hlt k
    unfold Rp.hidTo
    generalize 4503599627370496 = C at *
    rw [Nat.succ_mul]
    split <;> omega
set_option maxHeartbeats 4000000 in
set_option maxRecDepth 10000 in
theorem rq_Seen (r : Rp) (hr : r.ok) (a : Option Addr) (cap : Nat) (vb : Value) (w : World) (hz : Byt w a r.cs.length r.cs) (hcap : r.cs.length ≤ cap) (s : Nat) (hs : s < 256) (hlt : ∀ j, r.d j < 4503599627370496) :
    Calls Tryd.prog 73 #[.agg (r.cells (.slice a r.cs.length cap) vb), .int .u8 (s : Int)] w fun e w' => e = .returned (.tuple #[.agg (arr4 (r.seenH s)), .int .u64 (r.hid s : Int)]) ∧ Below w.heap.size w w' := by
  have HHD := Lib.hid (fun (i : Nat) (hi : i < 256) W (hzW : Byt W a r.cs.length r.cs) => rq_Hand r hr a cap vb W hzW hcap i hi)
  have HHF : Hid (r.hid s = if 3 < s then 0 else r.hidTo s 4) := Lib.hid rfl
  have hdc := hr.dc
  obtain ⟨m, hm⟩ : ∃ m, (r.dc + 2) % 4 = m := ⟨_, rfl⟩
  have HMM := Lib.hid hm
  have e1 : ((r.dc : Int) + 2).tmod 4 = (m : Int) := by rw [Int.tmod_eq_emod_of_nonneg (by omega)]; omega
  have e1' : ((r.dc : Int) + 2) % 4 = (m : Int) := by omega
  have e2 : IntKind.u8.wrap ((r.dc : Int) + 2) = (r.dc : Int) + 2 := by rw [IntKind.wrap_u8]; omega
  have e3 : IntKind.u8.wrap (m : Int) = (m : Int) := by rw [IntKind.wrap_u8]; omega
  obtain ⟨n, hn⟩ : ∃ n, r.cs.length = n := ⟨_, rfl⟩
  have HNN := Lib.hid hn
  have hlt := hlt
  clear hm hn
  have HYZ := Lib.hid hz
  have HR := Lib.hid (Row.new w 71 (r.cells (.slice a r.cs.length cap) vb))
  have HB := Lib.hid ((Below.refl w.heap.size w).alloc (Nat.le_refl _) (.cells (r.cells (.slice a r.cs.length cap) vb) 71))
  have HY1 := Lib.hid (hz.below (Nat.le_refl _) HB.out)
  obtain ⟨PA, hPA⟩ : ∃ A, r.cells (.slice a r.cs.length cap) vb = A := ⟨_, rfl⟩
  have HPZ : Hid (PA.size = 10) := Lib.hid (by rw [← hPA]; rfl)
  have HPE := Lib.hid hPA
  rw [hPA] at HR HB HY1 ⊢
  rw [HPE.out] at HHD
  clear hPA hz hcap hr
  have hs0 : (w.alloc (.cells PA 71)).heap.size = w.heap.size + 1 := by simp
  have hs1 : ((w.alloc (.cells PA 71)).alloc (.cells #[.int .u64 0, .int .u64 0, .int .u64 0, .int .u64 0] 26)).heap.size = w.heap.size + 1 + 1 := by simp
  have hr1 := Row.new (w.alloc (.cells PA 71)) 26 #[.int .u64 0, .int .u64 0, .int .u64 0, .int .u64 0]
  have hr2 := Row.new ((w.alloc (.cells PA 71)).alloc (.cells #[.int .u64 0, .int .u64 0, .int .u64 0, .int .u64 0] 26)) 26 #[.int .u64 0, .int .u64 0, .int .u64 0, .int .u64 0]
  rw [hs0] at hr1
  rw [hs1] at hr2
  have HR := Lib.hid ((HR.out.alloc (.cells #[.int .u64 0, .int .u64 0, .int .u64 0, .int .u64 0] 26)).alloc (.cells #[.int .u64 0, .int .u64 0, .int .u64 0, .int .u64 0] 26))
  have H40 := Lib.hid (hr1.alloc (.cells #[.int .u64 0, .int .u64 0, .int .u64 0, .int .u64 0] 26))
  have H60 := Lib.hid hr2
  have HB := Lib.hid ((HB.out.alloc (by simp) (.cells #[.int .u64 0, .int .u64 0, .int .u64 0, .int .u64 0] 26)).alloc (by simp; omega) (.cells #[.int .u64 0, .int .u64 0, .int .u64 0, .int .u64 0] 26))
  clear hs0 hs1 hr1 hr2 HY1
  go_enter Tryd.func73, Tryd.ntmps73
  go_upto_region 2 with fail
  show Code.wp _ _ _ _ (((w.alloc (.cells PA 71)).alloc (.cells #[.int .u64 0, .int .u64 0, .int .u64 0, .int .u64 0] 26)).alloc (.cells #[.int .u64 0, .int .u64 0, .int .u64 0, .int .u64 0] 26))
  generalize ((w.alloc (.cells PA 71)).alloc (.cells #[.int .u64 0, .int .u64 0, .int .u64 0, .int .u64 0] 26)).alloc (.cells #[.int .u64 0, .int .u64 0, .int .u64 0, .int .u64 0] 26) = w1 at *
  obtain ⟨b, hb⟩ : ∃ b, w.heap.size = b := ⟨_, rfl⟩
  obtain ⟨b4, hb4⟩ : ∃ x, w.heap.size + 1 = x := ⟨_, rfl⟩
  obtain ⟨b6, hb6⟩ : ∃ x, w.heap.size + 1 + 1 = x := ⟨_, rfl⟩
  have HBS : Hid (w.heap.size = b ∧ b4 = b + 1 ∧ b6 = b + 2) := Lib.hid ⟨hb, by omega, by omega⟩
  rw [hb6] at H60 ⊢
  rw [hb4] at H40 ⊢
  rw [hb] at HR ⊢
  clear hb hb4 hb6
  by_cases h3 : s ≤ 3
  · have hd3 : decide ((s : Int) > 3) = false := by rw [decide_eq_false_iff_not]; omega
    have HSEEN : Hid (∀ i, i < 4 → r.seenH s i = if i = s ∨ (i = m ∧ n ≠ 0) then r.hand i else 0) := Lib.hid fun i hi => by
      unfold Rp.seenH; rw [if_neg (by omega), HMM.out, HNN.out]
    have HHID : Hid (∀ i, i < 4 → r.hidTo s (i + 1) = if i = s ∨ (i = m ∧ n ≠ 0) then r.hidTo s i else r.hidTo s i + r.hand i) := Lib.hid fun i hi => by
      show (if i = s ∨ (i = (r.dc + 2) % 4 ∧ r.cs.length ≠ 0) then r.hidTo s i else r.hidTo s i + r.hand i) = _
      rw [HMM.out, HNN.out]
    go_upto_region 6 with fail
    try dsimp only [Act.put]
    go_loopg [7, 8] 4 (fun g hv iv wr => ∃ (i : Nat), g = 4 - i ∧ i ≤ 4 ∧ iv = .int .u8 (i : Int) ∧ hv = .int .u64 (r.hidTo s i : Int) ∧ Row wr b 71 PA ∧ Row wr b4 26 #[.int .u64 0, .int .u64 0, .int .u64 0, .int .u64 0] ∧ Row wr b6 26 (arr4 (fun j => if j < i then r.seenH s j else 0)) ∧ Below w.heap.size w wr)
    case atStart => exact ⟨0, rfl, by omega, rfl, rfl, HR.out, H40.out, H60.out, HB.out⟩
    case round =>
    obtain ⟨i, rfl, hi, rfl, rfl, hrow, h4, h6, hbk⟩ := hrel
    have HRK := Lib.hid hrow
    have H4 := Lib.hid h4
    have H6 := Lib.hid h6
    have HBK := Lib.hid hbk
    have HYK := Lib.hid (HYZ.out.below (Nat.le_refl _) hbk)
    clear hrow h4 h6 hbk
    by_cases hi4 : i < 4
    · have hd : decide (i < 4) = true := by simp; omega
      have hiI : (i : Int) < 4 := by omega
      have c7 : wr.cell? ⟨b, 7, none⟩ = some (.int .u8 (r.dc : Int)) := by rw [HRK.out.cell 7, ← HPE.out]; rfl
      have c8 : wr.cell? ⟨b, 8, none⟩ = some (.slice a n cap) := by rw [HRK.out.cell 8, ← HPE.out, ← HNN.out]; rfl
      by_cases his : i = s
      · have hcase : i = s ∨ (i = m ∧ n ≠ 0) := .inl his
        have hq1 : ((i : Int) == (s : Int)) = true := by rw [beq_iff_eq]; omega
        clear his
        have HSH := Lib.hid (HSEEN.out i hi4)
        rw [if_pos hcase] at HSH
        have HHI := Lib.hid (HHID.out i hi4)
        rw [if_pos hcase] at HHI
        clear hcase
        go_wp2_with (refine wpList_load_row rfl 71 (.tmp 2) rfl b rfl 71 PA (0, 0) _ HRK.out Tryd.underlying71 rfl (by rw [HPZ.out]; exact size_rp) ?_)
        refine (HHD.out i (by omega) _ HYK.out).mono ?_
        rintro e w5 ⟨rfl, hb5⟩
        have HR5 := Lib.hid (HRK.out.later hb5)
        have H4' := Lib.hid (H4.out.later hb5)
        have H6' := Lib.hid (H6.out.later hb5)
        have HB5 := Lib.hid (HBK.out.trans (hb5.mono HBK.out.size))
        have cz : w5.cell? ⟨b6, i, none⟩ = some (.int .u64 0) := (H6'.out.cell i).trans ((arr4_get _ i hi4).trans (by rw [if_neg (Nat.lt_irrefl _)]; rfl))
        have fz := H6'.out.frozen i
        have H6s := H6'.out.set i (.int .u64 (r.hand i : Int))
        rw [arr4_set _ _ _ hi4] at H6s
        have H6S := Lib.hid H6s
        have HRS := Lib.hid (HR5.out.other (B' := b6) (i := i) (v := .int .u64 (r.hand i : Int)) (by have := HBS.out; omega))
        have H4S := Lib.hid (H4'.out.other (B' := b6) (i := i) (v := .int .u64 (r.hand i : Int)) (by have := HBS.out; omega))
        have HBSC := Lib.hid (HB5.out.setCell (p := ⟨b6, i, none⟩) (by have := HBS.out; show w.heap.size ≤ b6; omega) (.int .u64 (r.hand i : Int)))
        have HEQ : Hid (arr4 (setH (fun j => if j < i then r.seenH s j else 0) i (r.hand i)) = arr4 (fun j => if j < i + 1 then r.seenH s j else 0)) := Lib.hid (by
          refine arr4_congrR fun j hj => ?_
          show (if j = i then r.hand i else (if j < i then r.seenH s j else 0)) = (if j < i + 1 then r.seenH s j else 0)
          by_cases hji : j = i
          · subst hji; rw [if_pos rfl, if_pos (by omega), HSH.out]
          · rw [if_neg hji]; by_cases h : j < i
            · rw [if_pos h, if_pos (by omega)]
            · rw [if_neg h, if_neg (by omega)])
        obtain ⟨hd, hhd⟩ : ∃ z, r.hand i = z := ⟨_, rfl⟩
        rw [hhd] at H6S HRS H4S HBSC HEQ ⊢
        clear hb5 H6s hhd
        go_wp2_with fail
        go_roundg (4 - (i + 1))
        case measure => omega
        case rel => exact ⟨i + 1, rfl, by omega, by go_num, by rw [HHI.out], HRS.out, H4S.out, by rw [← HEQ.out]; exact H6S.out, HBSC.out⟩
      · have hq1 : ((i : Int) == (s : Int)) = false := by rw [beq_eq_false_iff_ne]; omega
        by_cases him : i = m
        · have hq2 : ((i : Int) == (m : Int)) = true := by rw [beq_iff_eq]; omega
          by_cases hn0 : n = 0
          · have hcase : ¬ (i = s ∨ (i = m ∧ n ≠ 0)) := by rintro (h | h); exact his h; exact h.2 hn0
            have hq3 : decide (0 < n) = false := by simp; omega
            clear his him hn0
            have HSH := Lib.hid (HSEEN.out i hi4)
            rw [if_neg hcase] at HSH
            have HHI := Lib.hid (HHID.out i hi4)
            rw [if_neg hcase] at HHI
            clear hcase
            go_wp2_with (refine wpList_load_row rfl 71 (.tmp 2) rfl b rfl 71 PA (0, 0) _ HRK.out Tryd.underlying71 rfl (by rw [HPZ.out]; exact size_rp) ?_)
            refine (HHD.out i (by omega) _ HYK.out).mono ?_
            rintro e w5 ⟨rfl, hb5⟩
            have HR5 := Lib.hid (HRK.out.later hb5)
            have H4' := Lib.hid (H4.out.later hb5)
            have H6' := Lib.hid (H6.out.later hb5)
            have HB5 := Lib.hid (HBK.out.trans (hb5.mono HBK.out.size))
            have HEQ : Hid (arr4 (fun j => if j < i then r.seenH s j else 0) = arr4 (fun j => if j < i + 1 then r.seenH s j else 0)) := Lib.hid (by
              refine arr4_congrR fun j hj => ?_
              show (if j < i then r.seenH s j else 0) = (if j < i + 1 then r.seenH s j else 0)
              by_cases h : j < i
              · rw [if_pos h, if_pos (by omega)]
              · rw [if_neg h]; by_cases h2 : j < i + 1
                · obtain rfl : j = i := by omega
                  rw [if_pos h2, HSH.out]
                · rw [if_neg h2])
            have hb1 := r.hid_le hlt s i
            have hb2 := r.hand_lt hlt i
            have HSUM : Hid (IntKind.u64.wrap ((r.hidTo s i : Int) + (r.hand i : Int)) = (r.hidTo s (i + 1) : Int)) := Lib.hid (by rw [HHI.out, IntKind.wrap_u64]; omega)
            obtain ⟨h1, hh1⟩ : ∃ z, r.hidTo s i = z := ⟨_, rfl⟩
            obtain ⟨h2, hh2⟩ : ∃ z, r.hand i = z := ⟨_, rfl⟩
            rw [hh1, hh2] at HSUM
            rw [hh1, hh2]
            clear hb5 hh1 hh2 hb1 hb2
            go_wp2_with fail
            go_roundg (4 - (i + 1))
            case measure => omega
            case rel => exact ⟨i + 1, rfl, by omega, by go_num, by rw [← HSUM.out], HR5.out, H4'.out, by rw [← HEQ.out]; exact H6'.out, HB5.out⟩
          · have hcase : i = s ∨ (i = m ∧ n ≠ 0) := .inr ⟨him, hn0⟩
            have hq3 : decide (0 < n) = true := by simp; omega
            clear his him hn0
            have HSH := Lib.hid (HSEEN.out i hi4)
            rw [if_pos hcase] at HSH
            have HHI := Lib.hid (HHID.out i hi4)
            rw [if_pos hcase] at HHI
            clear hcase
            go_wp2_with (refine wpList_load_row rfl 71 (.tmp 2) rfl b rfl 71 PA (0, 0) _ HRK.out Tryd.underlying71 rfl (by rw [HPZ.out]; exact size_rp) ?_)
            refine (HHD.out i (by omega) _ HYK.out).mono ?_
            rintro e w5 ⟨rfl, hb5⟩
            have HR5 := Lib.hid (HRK.out.later hb5)
            have H4' := Lib.hid (H4.out.later hb5)
            have H6' := Lib.hid (H6.out.later hb5)
            have HB5 := Lib.hid (HBK.out.trans (hb5.mono HBK.out.size))
            have cz : w5.cell? ⟨b6, i, none⟩ = some (.int .u64 0) := (H6'.out.cell i).trans ((arr4_get _ i hi4).trans (by rw [if_neg (Nat.lt_irrefl _)]; rfl))
            have fz := H6'.out.frozen i
            have H6s := H6'.out.set i (.int .u64 (r.hand i : Int))
            rw [arr4_set _ _ _ hi4] at H6s
            have H6S := Lib.hid H6s
            have HRS := Lib.hid (HR5.out.other (B' := b6) (i := i) (v := .int .u64 (r.hand i : Int)) (by have := HBS.out; omega))
            have H4S := Lib.hid (H4'.out.other (B' := b6) (i := i) (v := .int .u64 (r.hand i : Int)) (by have := HBS.out; omega))
            have HBSC := Lib.hid (HB5.out.setCell (p := ⟨b6, i, none⟩) (by have := HBS.out; show w.heap.size ≤ b6; omega) (.int .u64 (r.hand i : Int)))
            have HEQ : Hid (arr4 (setH (fun j => if j < i then r.seenH s j else 0) i (r.hand i)) = arr4 (fun j => if j < i + 1 then r.seenH s j else 0)) := Lib.hid (by
              refine arr4_congrR fun j hj => ?_
              show (if j = i then r.hand i else (if j < i then r.seenH s j else 0)) = (if j < i + 1 then r.seenH s j else 0)
              by_cases hji : j = i
              · subst hji; rw [if_pos rfl, if_pos (by omega), HSH.out]
              · rw [if_neg hji]; by_cases h : j < i
                · rw [if_pos h, if_pos (by omega)]
                · rw [if_neg h, if_neg (by omega)])
            obtain ⟨hd, hhd⟩ : ∃ z, r.hand i = z := ⟨_, rfl⟩
            rw [hhd] at H6S HRS H4S HBSC HEQ ⊢
            clear hb5 H6s hhd
            go_wp2_with fail
            go_roundg (4 - (i + 1))
            case measure => omega
            case rel => exact ⟨i + 1, rfl, by omega, by go_num, by rw [HHI.out], HRS.out, H4S.out, by rw [← HEQ.out]; exact H6S.out, HBSC.out⟩
        · have hq2 : ((i : Int) == (m : Int)) = false := by rw [beq_eq_false_iff_ne]; omega
          have hcase : ¬ (i = s ∨ (i = m ∧ n ≠ 0)) := by rintro (h | h); exact his h; exact him h.1
          clear his him
          have HSH := Lib.hid (HSEEN.out i hi4)
          rw [if_neg hcase] at HSH
          have HHI := Lib.hid (HHID.out i hi4)
          rw [if_neg hcase] at HHI
          clear hcase
          go_wp2_with (refine wpList_load_row rfl 71 (.tmp 2) rfl b rfl 71 PA (0, 0) _ HRK.out Tryd.underlying71 rfl (by rw [HPZ.out]; exact size_rp) ?_)
          refine (HHD.out i (by omega) _ HYK.out).mono ?_
          rintro e w5 ⟨rfl, hb5⟩
          have HR5 := Lib.hid (HRK.out.later hb5)
          have H4' := Lib.hid (H4.out.later hb5)
          have H6' := Lib.hid (H6.out.later hb5)
          have HB5 := Lib.hid (HBK.out.trans (hb5.mono HBK.out.size))
          have HEQ : Hid (arr4 (fun j => if j < i then r.seenH s j else 0) = arr4 (fun j => if j < i + 1 then r.seenH s j else 0)) := Lib.hid (by
            refine arr4_congrR fun j hj => ?_
            show (if j < i then r.seenH s j else 0) = (if j < i + 1 then r.seenH s j else 0)
            by_cases h : j < i
            · rw [if_pos h, if_pos (by omega)]
            · rw [if_neg h]; by_cases h2 : j < i + 1
              · obtain rfl : j = i := by omega
                rw [if_pos h2, HSH.out]
              · rw [if_neg h2])
          have hb1 := r.hid_le hlt s i
          have hb2 := r.hand_lt hlt i
          have HSUM : Hid (IntKind.u64.wrap ((r.hidTo s i : Int) + (r.hand i : Int)) = (r.hidTo s (i + 1) : Int)) := Lib.hid (by rw [HHI.out, IntKind.wrap_u64]; omega)
          obtain ⟨h1, hh1⟩ : ∃ z, r.hidTo s i = z := ⟨_, rfl⟩
          obtain ⟨h2, hh2⟩ : ∃ z, r.hand i = z := ⟨_, rfl⟩
          rw [hh1, hh2] at HSUM
          rw [hh1, hh2]
          clear hb5 hh1 hh2 hb1 hb2
          go_wp2_with fail
          go_roundg (4 - (i + 1))
          case measure => omega
          case rel => exact ⟨i + 1, rfl, by omega, by go_num, by rw [← HSUM.out], HR5.out, H4'.out, by rw [← HEQ.out]; exact H6'.out, HB5.out⟩
    · obtain rfl : i = 4 := by omega
      have hd : decide (4 < 4) = false := by simp
      obtain ⟨QA, hQA⟩ : ∃ A, arr4 (fun j => if j < 4 then r.seenH s j else 0) = A := ⟨_, rfl⟩
      have HQZ : Hid (QA.size = 4 ∧ QA.all (·.oneCell') = true) := Lib.hid (by rw [← hQA]; exact ⟨rfl, by simp [arr4, Value.oneCell']⟩)
      have HQE : Hid (arr4 (r.seenH s) = QA) := Lib.hid (by rw [← hQA]; exact arr4_congrR fun j hj => by rw [if_pos hj])
      rw [hQA] at H6
      clear hQA hi4
      go_wp2_with (first
        | refine wpList_load_row rfl 26 (.tmp 6) rfl b6 rfl 26 QA (0, 0) _ H6.out Tryd.underlying26 rfl (by rw [HQZ.out.1]; exact size_dealR) ?_
        | refine wpList_store_row rfl 26 (.tmp 4) (.tmp 44) rfl b4 QA rfl rfl 26 _ H4.out (by rw [HQZ.out.1]; exact size_dealR) (by rw [HQZ.out.1]; rfl) HQZ.out.2 ?_)
      refine bodyPost_ret (v := .tuple #[.agg QA, .int .u64 (r.hidTo s 4 : Int)]) (results_cellt Tryd.results73 _ _ b4 _ QA (0, 0) _ rfl (setRow_heap _ _ _ _ _ _ H4.out) Tryd.underlying26 rfl (by rw [HQZ.out.1]; exact size_dealR)) rfl ⟨by rw [HQE.out, HHF.out, if_neg (by omega)], below_setRow HBK.out (by have := HBS.out; omega) _⟩
  · have hd3 : decide ((s : Int) > 3) = true := by rw [decide_eq_true_eq]; omega
    have HE1 : Hid (arr4 (r.seenH s) = #[.int .u64 0, .int .u64 0, .int .u64 0, .int .u64 0]) := Lib.hid (by unfold arr4; simp only [Rp.seenH, if_pos (show 3 < s by omega)]; rfl)
    obtain ⟨QA, hQA⟩ : ∃ A : Array Value, #[.int .u64 0, .int .u64 0, .int .u64 0, .int .u64 0] = A := ⟨_, rfl⟩
    have HQZ : Hid (QA.size = 4 ∧ QA.all (·.oneCell') = true) := Lib.hid (by rw [← hQA]; exact ⟨rfl, by simp [Value.oneCell']⟩)
    rw [hQA] at H60 H40 HE1
    clear hQA
    go_wp2_with (first
      | refine wpList_load_row rfl 26 (.tmp 6) rfl b6 rfl 26 QA (0, 0) _ H60.out Tryd.underlying26 rfl (by rw [HQZ.out.1]; exact size_dealR) ?_
      | refine wpList_store_row rfl 26 (.tmp 4) (.tmp 11) rfl b4 QA rfl rfl 26 _ H40.out (by rw [HQZ.out.1]; exact size_dealR) rfl HQZ.out.2 ?_)
    refine bodyPost_ret (v := .tuple #[.agg QA, .int .u64 0]) (results_cellt Tryd.results73 _ _ b4 _ QA (0, 0) _ rfl (setRow_heap _ _ _ _ _ _ H40.out) Tryd.underlying26 rfl (by rw [HQZ.out.1]; exact size_dealR)) rfl ⟨by rw [HE1.out, HHF.out, if_pos (by omega)]; rfl, below_setRow HB.out (by have := HBS.out; omega) _⟩
end Go.Proofs.YtginbellakkliaaDoor
