/- finesselaw13.Played with the closure of RevokeSmall, over this seat's program: it hands back a record of cards. -/
import Derived.Test.YtdlnilebnobllaaRvPl
import Derived.Deep.LoopGhost
import Derived.BigQuiet
import Derived.Deep.Cut
import Derived.Deep.CutBlock
import Derived.RegionTactic
import Derived.BigRegion
namespace Go.Proofs.Ytdlnilebnobllaa
open Go.RowKit Go.Shelf Go.Sort

/-- what holds of a play of k cards -/
structure PlOk (s : PlS) (k : Nat) : Prop where
  len : s.zs.length = k
  w : ∀ j, W64 (s.h j)
  ld : s.ld < 4
  b : ∀ c ∈ s.zs, c < 52
theorem PlOk.next {s : PlS} {k : Nat} (h : PlOk s k) (t : Nat) {c : Nat} (hc : c < 52) : PlOk (s.next t c) (k + 1) := by
  refine ⟨by simp [PlS.next, h.len], W64.setH h.w _ _ (W64.landn (h.w _)), ?_, fun z hz => ?_⟩
  · unfold PlS.next
    have := h.ld
    dsimp only
    split
    · omega
    · exact this
  · simp only [PlS.next, List.mem_append, List.mem_singleton] at hz
    rcases hz with hz | rfl
    · exact h.b z hz
    · exact hc
/-- at the head of a round of finesselaw13.Played -/
def PlRel2 (Bt : Nat) (r : Rc) (N : Nat) (w : World) (k : Nat) (ld : Value) (wr : World) : Prop :=
  ∃ (s : PlS) (bits : Nat), PlOk s k ∧ bits < 256 ∧ ld = .int .u8 (s.ld : Int) ∧
  ∃ v, Row wr N 27 #[.int .u64 (r.h 0 : Int), .int .u64 (r.h 1 : Int), .int .u64 (r.h 2 : Int), .int .u64 (r.h 3 : Int), .int .u8 (r.t : Int), .int .u8 (r.d : Int), v] ∧
    OwnU wr (N + 3) v s.zs ∧ Row wr (N + 2) 24 (arr4 s.h) ∧
    Row wr (N + 1) 27 #[.int .u64 0, .int .u64 0, .int .u64 0, .int .u64 0, .int .u8 0, .int .u8 0, .slice none 0 0] ∧
    w.grownBy wr (some Bt) ∧ Row wr Bt 3 #[.int .i64 (bits : Int)]

theorem PlRel2.step {Bt : Nat} {r : Rc} {N : Nat} {w w5 : World} {k bits : Nat} {s' : PlS} {v v' : Value} (hs : PlOk s' (k + 1)) (hbi : bits < 256) (hBN : Bt < N) (hN : w.heap.size = N)
    (e0 : Row w5 N 27 #[.int .u64 (r.h 0 : Int), .int .u64 (r.h 1 : Int), .int .u64 (r.h 2 : Int), .int .u64 (r.h 3 : Int), .int .u8 (r.t : Int), .int .u8 (r.d : Int), v]) (ho : OwnU w5 (N + 3) v' s'.zs) (h2 : Row w5 (N + 1 + 1) 24 (arr4 s'.h))
    (h1 : Row w5 (N + 1) 27 #[.int .u64 0, .int .u64 0, .int .u64 0, .int .u64 0, .int .u8 0, .int .u8 0, .slice none 0 0]) (hg : w.grownBy w5 (some Bt)) (hT : Row w5 Bt 3 #[.int .i64 (bits : Int)]) :
    PlRel2 Bt r N w (k + 1) (.int .u8 (s'.ld : Int)) (w5.setCell ⟨N, 6, none⟩ v') := by
  have e1 := e0.set 6 v'
  refine ⟨s', bits, hs, hbi, rfl, v', e1, ho.kept (grownBy_set (World.grownBy.refl w5 (some N)) (.inl rfl) _) (.inl (fun e => by have := (ho.row e.symm).1; omega)), h2.other (by omega), h1.other (by omega), grownBy_set hg (.inr (by simp; omega)) _, hT.other (by omega)⟩
theorem PlRel2.drawn {Bt : Nat} {r : Rc} {N : Nat} {w w5 w6 : World} {k : Nat} {v : Value} (h : PlRel2 Bt r N w k v w5) (hb : Below w5.heap.size w5 w6) : PlRel2 Bt r N w k v w6 := by
  obtain ⟨s, bits, h7, h8, h0, v', h1, h2, h3, h4, h5, h6⟩ := h
  exact ⟨s, bits, h7, h8, h0, v', h1.below h1.lt hb, h2.below hb, h3.below h3.lt hb, h4.below h4.lt hb, grownBy_then h5 hb, h6.below h6.lt hb⟩

set_option maxRecDepth 100000 in
theorem small1 (Bt bits L ll ch cl : Nat) (ah al : Option Addr) (hand : List Nat) (w : World) (hT : Row w Bt 3 #[.int .i64 (bits : Int)]) (hbi : bits < 256) (hh : Byt w ah L hand) (h0 : 0 < L) (h52 : L ≤ 52)
    (hap : ∀ ad, ah = some ad → Bt < ad.block) :
    Calls Try.prog 16 #[.slice ah L ch, .slice al ll cl, .pointer (some ⟨Bt, 0, none⟩)] w fun e w' =>
      e = .returned (.int .u8 ((hand.getD (bits % 2 % L) 0 : Nat) : Int)) ∧ w.grownBy w' (some Bt) ∧ Row w' Bt 3 #[.int .i64 ((bits / 2 : Nat) : Int)] := by
  have hc : w.cell? ⟨Bt, 0, none⟩ = some (.int .i64 (bits : Int)) := hT.cell 0
  have hf := hT.frozen 0
  have hx : bits % 2 % L < L := Nat.mod_lt _ h0
  have hxI : (bits : Int) % 2 % (L : Int) = ((bits % 2 % L : Nat) : Int) := by simp
  obtain ⟨g, off, rfl, -, hcs⟩ := hh.at h0
  have hcx := hcs _ hx
  generalize bits % 2 % L = x at *
  generalize hand.getD x 0 = z at *
  have hxl : (x : Int) < (L : Int) := by omega
  have hLI : (L : Int) ≠ 0 := by omega
  clear hap hh hcs
  go_enter Try.func16, Try.ntmps16
  go_wp2_with fail
  go_ret
  rw [show (bits : Int) / 2 = ((bits / 2 : Nat) : Int) by omega]
  exact ⟨rfl, grownBy_set (World.grownBy.refl w (some Bt)) (.inl rfl) _, hT.set 0 _⟩

set_option maxHeartbeats 2000000 in
set_option maxRecDepth 100000 in
theorem played2 (Bt bits0 most : Nat) (r : Rc) (a : Option Addr) (len cap : Nat) (w : World)
    (hin0 : Row w Bt 3 #[.int .i64 (bits0 : Int)]) (hbi0 : bits0 < 256) (hW : ∀ j, W64 (r.h j)) (_hrt : r.t < 256) (hrd : r.d ≤ 3) (hmost : most ≤ 60) :
    Calls Try.prog 15 #[r.v a len cap, .func (.func 16) #[] #[.pointer (some ⟨Bt, 0, none⟩)], .int .i64 (most : Int)] w fun e w' =>
      ∃ v zs, e = .returned (.agg #[.int .u64 (r.h 0 : Int), .int .u64 (r.h 1 : Int), .int .u64 (r.h 2 : Int), .int .u64 (r.h 3 : Int), .int .u8 (r.t : Int), .int .u8 (r.d : Int), v]) ∧
        OwnU w' w.heap.size v zs ∧ zs.length ≤ most ∧ (∀ c ∈ zs, c < 52) ∧ w.grownBy w' (some Bt) := by
  obtain ⟨i0, hi, hz0, hz1, hz2⟩ := info_parts info_u8'
  go_enter Try.func15, Try.ntmps15
  go_wp2_with fail
  have hg0 := grownBy_alloc' (grownBy_alloc' (grownBy_alloc' (World.grownBy.refl w (some Bt)) (.cells #[.int .u64 (r.h 0 : Int), .int .u64 (r.h 1 : Int), .int .u64 (r.h 2 : Int), .int .u64 (r.h 3 : Int), .int .u8 (r.t : Int), .int .u8 (r.d : Int), .slice none 0 0] 27)) (.cells #[.int .u64 0, .int .u64 0, .int .u64 0, .int .u64 0, .int .u8 0, .int .u8 0, .slice none 0 0] 27)) (.cells (arr4 r.h) 24)
  have hR0 := ((Row.new w 27 #[.int .u64 (r.h 0 : Int), .int .u64 (r.h 1 : Int), .int .u64 (r.h 2 : Int), .int .u64 (r.h 3 : Int), .int .u8 (r.t : Int), .int .u8 (r.d : Int), .slice none 0 0]).alloc (.cells #[.int .u64 0, .int .u64 0, .int .u64 0, .int .u64 0, .int .u8 0, .int .u8 0, .slice none 0 0] 27)).alloc (.cells (arr4 r.h) 24)
  have hR1 := (Row.new (w.alloc (.cells #[.int .u64 (r.h 0 : Int), .int .u64 (r.h 1 : Int), .int .u64 (r.h 2 : Int), .int .u64 (r.h 3 : Int), .int .u8 (r.t : Int), .int .u8 (r.d : Int), .slice none 0 0] 27)) 27 #[.int .u64 0, .int .u64 0, .int .u64 0, .int .u64 0, .int .u8 0, .int .u8 0, .slice none 0 0]).alloc (.cells (arr4 r.h) 24)
  have hR2 := Row.new ((w.alloc (.cells #[.int .u64 (r.h 0 : Int), .int .u64 (r.h 1 : Int), .int .u64 (r.h 2 : Int), .int .u64 (r.h 3 : Int), .int .u8 (r.t : Int), .int .u8 (r.d : Int), .slice none 0 0] 27)).alloc (.cells #[.int .u64 0, .int .u64 0, .int .u64 0, .int .u64 0, .int .u8 0, .int .u8 0, .slice none 0 0] 27)) 24 (arr4 r.h)
  simp only [World.size_alloc] at hR1 hR2
  have hT0 := ((hin0.alloc (.cells #[.int .u64 (r.h 0 : Int), .int .u64 (r.h 1 : Int), .int .u64 (r.h 2 : Int), .int .u64 (r.h 3 : Int), .int .u8 (r.t : Int), .int .u8 (r.d : Int), .slice none 0 0] 27)).alloc (.cells #[.int .u64 0, .int .u64 0, .int .u64 0, .int .u64 0, .int .u8 0, .int .u8 0, .slice none 0 0] 27)).alloc (.cells (arr4 r.h) 24)
  go_loopg [8] most (fun g ld wr => ∃ k : Nat, k ≤ most ∧ g = most - k ∧ PlRel2 Bt r w.heap.size w k ld wr)
  case atStart =>
    exact ⟨0, by omega, rfl, ⟨r.h, (r.d + 1) % 4, []⟩, bits0, ⟨rfl, hW, Nat.mod_lt _ (by omega), fun c hc => by cases hc⟩, hbi0, (by simp), .slice none 0 0, hR0, Owns.nil encU_len _ _, hR2, hR1, hg0, hT0⟩
  case round =>
    generalize wr = w1 at *
    obtain ⟨k, hk, rfl, s, bits, hs, hbi, rfl, v, h0, ho, h2, h1, hg, hT⟩ := hrel
    have hln := hs.len
    have hsw := hs.w
    have hsl := hs.ld
    have hsb := hs.b
    obtain ⟨av, cv, rfl, hnil, hlc, hmx, hab, hbv⟩ := ho.byt (by omega) (fun i => getD_lt (by omega) (fun c hc => by have := hsb c hc; omega) i)
    rw [hln] at hlc hbv
    have c6 := h0.cell 6
    simp [hln] at c6
    by_cases hlt : k < most
    · have hk60 : k ≤ 60 := by omega
      obtain ⟨al, hcut, hbl, hal⟩ := cut_run av k cv (k / 4 * 4) s.zs w1 (by omega) hlc hbv
      rw [show ((k / 4 * 4 : Nat) : Int) = (k : Int) / 4 * 4 by omega] at hcut
      obtain ⟨ll, hll⟩ : ∃ ll, ll = k - k / 4 * 4 := ⟨_, rfl⟩
      rw [← hll] at hcut hbl
      have hll4 : ll < 4 := by omega
      have hseat : s.seat = (s.ld + ll) % 4 := by unfold PlS.seat; rw [hln, hll]; congr 2; omega
      have hled : s.led = s.zs.drop (k / 4 * 4) := by unfold PlS.led; rw [hln]
      have hsm : (s.ld + ll) % 4 < 4 := Nat.mod_lt _ (by omega)
      have HLL := Lib.hid hll
      have hBN : Bt < w.heap.size := hin0.lt
      clear hll
      have HW0 := hsw ((s.ld + ll) % 4)
      have hm0 := (h2.cell ((s.ld + ll) % 4)).trans (arr4_get s.h _ hsm)
      generalize hM : s.h ((s.ld + ll) % 4) = m at *
      have HHM := Lib.hid hM
      clear hM
      have hhand : s.hand = handTo m 52 := by unfold PlS.hand; rw [hseat, HHM.out]
      go_wp2_with fail
      go_loopw [11, 40] (fun hv c w2 => ∃ i : Nat, i ≤ 52 ∧ c = .int .u8 (i : Int) ∧ OwnU w2 w1.heap.size hv (handTo m i) ∧ Below w1.heap.size w1 w2) (fun _ c _ => 52 - (intOf c).toNat)
      case atStart => exact ⟨0, by omega, rfl, Owns.nil encU_len _ _, Below.refl _ _⟩
      case round =>
        obtain ⟨i, hi52, rfl, how, hB⟩ := hrel
        obtain ⟨vh, ch, rfl, hah⟩ := how.slice
        have hhl := handTo_le m i
        by_cases hlt2 : i < 52
        · have hc := (hB.cell (p := ⟨w.heap.size + 1 + 1, (s.ld + ll) % 4, none⟩) h2.lt).trans hm0
          have hsz := hB.size
          cases hbit : m.testBit i
          · have HN := Lib.hid (show handTo m (i + 1) = handTo m i by rw [handTo, hbit]; rfl)
            go_wp2
            go_roundw
            case rel => exact ⟨i + 1, by omega, by go_num, by rw [HN.out]; exact how, hB⟩
            case measure => simp [intOf]; omega
          · have HN := Lib.hid (show handTo m (i + 1) = handTo m i ++ [i] by rw [handTo, hbit]; rfl)
            go_wp2_with (at_builtin; (refine wpList_append_own_at _ rfl _ _ 25 rfl w1.heap.size 5 i0 (.int .u8 0) 1 1 Try.underlying25 hi hz0 hz1 hz2 rfl (by decide) _ _ _ rfl (how.2.alloc _) ⟨wr.heap.size, 0, none⟩ 1 1 [.int .u8 (i : Int)] rfl rfl (cell_one_new _ _ _) (by simp [Value.oneCell']) (by unfold maxLen; omega) (by omega) (by simp; omega) ?_); intro v' w3 hown' hgrow _ hloc)
            go_roundw
            case rel =>
              refine ⟨i + 1, by omega, by go_num, ⟨encU_len, ?_⟩, (hB.alloc hsz _).grown hgrow (by simp; omega) (fun g e => (how.row e).1)⟩
              rw [HN.out]
              simpa using hown'
            case measure => simp [intOf]; omega
        · have hie : i = 52 := by omega
          subst hie
          obtain ⟨ah, ch, hve, -, hlch, hmxh, hbh, hbyh⟩ := how.byt (by omega) (fun j => getD_lt (by omega) (fun c hc => by have := ((handTo_mem m 52 c).1 hc).1; omega) j)
          injection hve with e1 e2 e3
          subst e1 e3
          by_cases hemp : handTo m 52 = []
          · have hL0 : (handTo m 52).length = 0 := by rw [hemp]; rfl
            have h0 := h0.below h0.lt hB
            have h1 := h1.below h1.lt hB
            have ho := ho.below hB
            have hg := grownBy_then hg hB
            clear c6 hm0 hT h2 how hB
            have c6 := h0.cell 6
            simp [hln] at c6
            have d0 := h0.cell 0
            have d1 := h0.cell 1
            have d2 := h0.cell 2
            have d3 := h0.cell 3
            have d4 := h0.cell 4
            have d5 := h0.cell 5
            simp at d0 d1 d2 d3 d4 d5
            have x0 := h1.cell 0
            have x1 := h1.cell 1
            have x2 := h1.cell 2
            have x3 := h1.cell 3
            have x4 := h1.cell 4
            have x5 := h1.cell 5
            have x6 := h1.cell 6
            simp at x0 x1 x2 x3 x4 x5 x6
            have y0 := h1.frozen 0
            have y1 := h1.frozen 1
            have y2 := h1.frozen 2
            have y3 := h1.frozen 3
            have y4 := h1.frozen 4
            have y5 := h1.frozen 5
            have y6 := h1.frozen 6
            rw [hln] at ho
            go_wp2
            refine bodyPost_ret (v := .agg #[.int .u64 (r.h 0 : Int), .int .u64 (r.h 1 : Int), .int .u64 (r.h 2 : Int), .int .u64 (r.h 3 : Int), .int .u8 (r.t : Int), .int .u8 (r.d : Int), .slice av k cv]) (by simp [results, Try.results15, go_sem, x0, x1, x2, x3, x4, x5, x6]) rfl ?_
            first | refine ⟨_, s.zs, rfl, ?_, by omega, hsb, ?_⟩ | refine ⟨_, rfl, s.zs, ?_, by omega, hsb, ?_⟩
            · exact (ho.kept (grownBy_set (grownBy_set (grownBy_set (grownBy_set (grownBy_set (grownBy_set (grownBy_set (World.grownBy.refl _ (some (w.heap.size + 1))) (.inl rfl) _) (.inl rfl) _) (.inl rfl) _) (.inl rfl) _) (.inl rfl) _) (.inl rfl) _) (.inl rfl) _) (.inl (fun e => by have := (ho.row e.symm).1; omega))).mono (by omega)
            · exact grownBy_set (grownBy_set (grownBy_set (grownBy_set (grownBy_set (grownBy_set (grownBy_set (hg) (.inr (by simp)) _) (.inr (by simp)) _) (.inr (by simp)) _) (.inr (by simp)) _) (.inr (by simp)) _) (.inr (by simp)) _) (.inr (by simp)) _
          have hgw : w.grownBy wr (some Bt) := grownBy_then hg hB
          have hT2 := hT.below hT.lt hB
          have hcm : (handTo m 52).getD (bits % 2 % (handTo m 52).length) 0 ∈ handTo m 52 := getD_mem_of_lt (Nat.mod_lt _ (List.length_pos_iff.2 hemp))
          have hcall := small1 Bt bits (handTo m 52).length ll ch (cv - k / 4 * 4) vh al (handTo m 52) wr hT2 hbi hbyh (List.length_pos_iff.2 hemp) (handTo_le m 52) (fun ad h => by have := (hbh ad h).1; have := hg.size; omega)
          have hc52 := ((handTo_mem m 52 _).1 hcm).1
          have hh0 : 0 < (handTo m 52).length := List.length_pos_iff.2 hemp
          generalize (handTo m 52).getD (bits % 2 % (handTo m 52).length) 0 = c at *
          have hNX := Lib.hid (hs.next r.t hc52)
          have hbi2 : bits / 2 < 256 := by omega
          have HCALL := Lib.hid hcall
          have h0r := h0.below h0.lt hB
          have h1r := h1.below h1.lt hB
          have h2r := h2.below h2.lt hB
          have hor := ho.below hB
          have hs4 := hB.size
          have HCM := Lib.hid hcm
          clear hcall hcm hT2 hT hbyh how hm0 c6 hbv h0 h1 h2 ho hg hB
          have hblk : ∀ {b : Nat}, b ≠ Bt → (some b : Option Nat) ≠ some Bt := fun h e => h (by injection e)
          go_wp2_with fail
          refine HCALL.out.mono ?_
          rintro e w3 ⟨rfl, hgc, hTc⟩
          have q0 := h0r.same (hgc.block _ h0r.lt (hblk (by omega)))
          have q1 := h1r.same (hgc.block _ h1r.lt (hblk (by omega)))
          have q2 := h2r.same (hgc.block _ h2r.lt (hblk (by omega)))
          have qo := hor.kept hgc (.inl (fun e => by have := (hor.row e.symm).1; omega))
          have hg3 := grownBy_trans hgw hgc
          have hs3 := hgc.size
          rw [hln] at qo
          have m3 := (q2.cell ((s.ld + ll) % 4)).trans (arr4_get s.h _ hsm)
          rw [HHM.out] at m3
          have f3 := q2.frozen ((s.ld + ll) % 4)
          clear h0r h1r h2r hor hgc hgw
          go_upto_region 17 with fail
          have p0 : Row (w3.setCell ⟨w.heap.size + 1 + 1, (s.ld + ll) % 4, none⟩ (.int .u64 ((landn m (shl1 c) : Nat) : Int))) w.heap.size 27 _ := q0.other (by omega)
          have p1 : Row (w3.setCell ⟨w.heap.size + 1 + 1, (s.ld + ll) % 4, none⟩ (.int .u64 ((landn m (shl1 c) : Nat) : Int))) (w.heap.size + 1) 27 _ := q1.other (by omega)
          have p2 := q2.set ((s.ld + ll) % 4) (.int .u64 ((landn m (shl1 c) : Nat) : Int))
          rw [arr4_set _ _ _ hsm] at p2
          have po := qo.kept (grownBy_set (World.grownBy.refl w3 (some (w.heap.size + 1 + 1))) (p := ⟨w.heap.size + 1 + 1, (s.ld + ll) % 4, none⟩) (.inl rfl) (.int .u64 ((landn m (shl1 c) : Nat) : Int))) (.inl (fun e => by have := (qo.row e.symm).1; omega))
          have g4 := grownBy_set hg3 (p := ⟨w.heap.size + 1 + 1, (s.ld + ll) % 4, none⟩) (.inr (by simp; omega)) (.int .u64 ((landn m (shl1 c) : Nat) : Int))
          have T4 : Row (w3.setCell ⟨w.heap.size + 1 + 1, (s.ld + ll) % 4, none⟩ (.int .u64 ((landn m (shl1 c) : Nat) : Int))) Bt 3 _ := hTc.other (by omega)
          have hs5 : w3.heap.size ≤ (w3.setCell ⟨w.heap.size + 1 + 1, (s.ld + ll) % 4, none⟩ (.int .u64 ((landn m (shl1 c) : Nat) : Int))).heap.size := by simp
          generalize (w3.setCell ⟨w.heap.size + 1 + 1, (s.ld + ll) % 4, none⟩ (.int .u64 ((landn m (shl1 c) : Nat) : Int))) = w4 at *
          clear q0 q1 q2 qo hg3 hTc m3 f3
          have d6 := p0.cell 6
          simp [hln] at d6
          have p0a := p0.lt
          have p2a := p2.lt
          have hB4 : ∀ o, w4.grownBy (w4.alloc o) (some Bt) := fun o => grownBy_alloc' (World.grownBy.refl w4 _) o
          have HB4 := Lib.hid hB4
          clear hB4
          have hl5 : (s.zs ++ [c]).length = k + 1 := by simp [hln]
          by_cases hq : (k + 1) % 4 = 0
          · have hq' : (((k : Int) + 1) % 4 == 0) = true := by rw [beq_iff_eq]; omega
            have hnx := hNX.out
            unfold PlS.next at hnx
            rw [hln, if_pos hq, hseat, HHM.out] at hnx
            generalize hlb : lawBest ((s.zs ++ [c]).drop (k + 1 - 4)) r.t 4 = lb at *
            go_upto_region 19 with (at_builtin; (refine wpList_append_own_at _ rfl _ _ 25 rfl (w.heap.size + 3) 5 i0 (.int .u8 0) 1 1 Try.underlying25 hi hz0 hz1 hz2 rfl (by decide) _ _ _ rfl (po.2.alloc _) ⟨w4.heap.size, 0, none⟩ 1 1 [.int .u8 (c : Int)] rfl rfl (cell_one_new _ _ _) (by simp [Value.oneCell']) (by unfold maxLen; omega) (by omega) (by simp; omega) ?_); intro v' w5 hown' hgrow _ hloc; go_must (have ho5 : OwnU w5 (w.heap.size + 3) v' (s.zs ++ [c]) := ⟨encU_len, by simpa [hln] using hown'⟩; obtain ⟨a5, c5, rfl, -⟩ := ho5.slice; have e0 := (p0.alloc (.cells #[.int .u8 (c : Int)] 5)).same (hgrow.block _ (by simp; omega) (fun e => by have := (po.row e.symm).1; omega)); have d7 := e0.cell 6; have f7 := e0.frozen 6; have hs7 := hgrow.size; simp at d7 hs7; rw [hl5] at ho5; have e1 := (p1.alloc (.cells #[.int .u8 (c : Int)] 5)).same (hgrow.block _ (by simp; omega) (fun e => by have := (po.row e.symm).1; omega)); have e2 := (p2.alloc (.cells #[.int .u8 (c : Int)] 5)).same (hgrow.block _ (by simp; omega) (fun e => by have := (po.row e.symm).1; omega)); have e3 := (T4.alloc (.cells #[.int .u8 (c : Int)] 5)).same (hgrow.block _ (by simp; omega) (fun e => by have := (po.row e.symm).1; omega)); have g5 : w.grownBy w5 (some Bt) := grownBy_over (grownBy_alloc' g4 (.cells #[.int .u8 (c : Int)] 5)) hgrow (fun g e => by have := (po.row e).1; omega); clear hgrow hloc hown'))
            have hP := PlRel2.step hnx hbi2 hBN rfl e0 ho5 e2 e1 g5 e3
            have b0 := e0.set 6 (.slice a5 (k + 1) c5)
            have ob : OwnU _ (w.heap.size + 3) (.slice a5 (k + 1) c5) (s.zs ++ [c]) := ho5.kept (grownBy_set (World.grownBy.refl w5 (some w.heap.size)) (p := ⟨w.heap.size, 6, none⟩) (.inl rfl) (.slice a5 (k + 1) c5)) (.inl (fun e => by have := (ho5.row e.symm).1; omega))
            generalize (w5.setCell ⟨w.heap.size, 6, none⟩ (.slice a5 (k + 1) c5)) = w6 at *
            obtain ⟨a6, c6', he6, -, hlc6, hmx6, -, hby6⟩ := ob.byt (by omega) (fun i => getD_lt (by omega) (fun z hz => by rcases List.mem_append.1 hz with h | h; exact Nat.lt_trans (hsb z h) (by omega); (have := List.mem_singleton.1 h; omega)) i)
            rw [hl5] at he6 hlc6 hby6
            injection he6 with f1 f2 f3
            subst f1 f3
            have hk4 : 3 ≤ k := by omega
            obtain ⟨a7, hcut7, hby7, -⟩ := cut_run a5 (k + 1) c5 (k + 1 - 4) _ w6 (by omega) hlc6 hby6
            rw [show ((k + 1 - 4 : Nat) : Int) = (k : Int) + 1 - 4 by omega, show k + 1 - (k + 1 - 4) = 4 by omega] at hcut7
            rw [show k + 1 - (k + 1 - 4) = 4 by omega] at hby7
            have hwin : Hid (∀ w', Below w6.heap.size w6 w' → Calls Try.prog 33 #[.slice a7 4 (c5 - (k + 1 - 4)), .int .u8 (r.t : Int)] w' fun e w'' => e = .returned (.int .u8 (lb : Int)) ∧ Below w'.heap.size w' w'') := by
              intro w' hb
              have := law_winner a7 4 (c5 - (k + 1 - 4)) r.t _ w' (hby7.below (Nat.le_refl _) hb) (by omega)
              rw [hlb] at this
              exact this.mono fun _ _ ⟨h1, h2⟩ => ⟨h1, h2 ▸ Below.refl _ _⟩
            have hlb4 : lb < 4 := by rw [← hlb]; exact lawBest_lt _ _ 4 (by omega)
            have ew : IntKind.u8.wrap ((s.ld : Int) + (lb : Int)) = (s.ld : Int) + (lb : Int) := by rw [IntKind.wrap_u8]; omega
            have ew4 : IntKind.i64.wrap ((k : Int) + 1 - 4) = (k : Int) + 1 - 4 := by rw [IntKind.wrap_i64]; omega
            have y6 := b0.cell 6
            have y4 := b0.cell 4
            simp at y6 y4
            have ry6 := fun dd os => cell_regrown y6 dd os
            have ry4 := fun dd os => cell_regrown y4 dd os
            have HLB := Lib.hid hlb
            have HP := Lib.hid hP
            clear hlb y6 y4 hP e0 e1 e2 e3 ho5 g5 d6 d7 f7 b0 ob hby6 hby7
            refine wp_region_quiet_below (by kernel_rfl) (by kernel_rfl) ?_
            repeat (quiet_step ((exact Calls.regrown_of (hwin.out _ (below_regrown _ _ _)))))
            refine wpQuiet_nil ?_
            rintro _ ⟨p', rfl⟩
            clear ry6 ry4 ew ew4
            have hb10 := below_regrown w6 p'.d p'.os
            generalize grow (redrawn w6 p'.d) p'.os = w10 at *
            have hP10 := HP.out.drawn hb10
            go_wp2
            go_roundg (most - (k + 1))
            case rel => exact ⟨k + 1, by omega, rfl, by rw [Int.tmod_eq_emod_of_nonneg (by omega)]; simpa using hP10⟩
            case measure => omega
          · have hq' : (((k : Int) + 1) % 4 == 0) = false := by rw [beq_eq_false_iff_ne]; omega
            have hnx := hNX.out
            unfold PlS.next at hnx
            rw [hln, if_neg hq, hseat, HHM.out] at hnx
            go_wp2_with (at_builtin; (refine wpList_append_own_at _ rfl _ _ 25 rfl (w.heap.size + 3) 5 i0 (.int .u8 0) 1 1 Try.underlying25 hi hz0 hz1 hz2 rfl (by decide) _ _ _ rfl (po.2.alloc _) ⟨w4.heap.size, 0, none⟩ 1 1 [.int .u8 (c : Int)] rfl rfl (cell_one_new _ _ _) (by simp [Value.oneCell']) (by unfold maxLen; omega) (by omega) (by simp; omega) ?_); intro v' w5 hown' hgrow _ hloc; go_must (have ho5 : OwnU w5 (w.heap.size + 3) v' (s.zs ++ [c]) := ⟨encU_len, by simpa [hln] using hown'⟩; obtain ⟨a5, c5, rfl, -⟩ := ho5.slice; have e0 := (p0.alloc (.cells #[.int .u8 (c : Int)] 5)).same (hgrow.block _ (by simp; omega) (fun e => by have := (po.row e.symm).1; omega)); have d7 := e0.cell 6; have f7 := e0.frozen 6; have hs7 := hgrow.size; simp at d7 hs7; rw [hl5] at ho5; have e1 := (p1.alloc (.cells #[.int .u8 (c : Int)] 5)).same (hgrow.block _ (by simp; omega) (fun e => by have := (po.row e.symm).1; omega)); have e2 := (p2.alloc (.cells #[.int .u8 (c : Int)] 5)).same (hgrow.block _ (by simp; omega) (fun e => by have := (po.row e.symm).1; omega)); have e3 := (T4.alloc (.cells #[.int .u8 (c : Int)] 5)).same (hgrow.block _ (by simp; omega) (fun e => by have := (po.row e.symm).1; omega)); have g5 : w.grownBy w5 (some Bt) := grownBy_over (grownBy_alloc' g4 (.cells #[.int .u8 (c : Int)] 5)) hgrow (fun g e => by have := (po.row e).1; omega); clear hgrow hloc hown'))
            go_roundg (most - (k + 1))
            case rel =>
              have hP := PlRel2.step hnx hbi2 hBN rfl e0 ho5 e2 e1 g5 e3
              exact ⟨k + 1, by omega, rfl, hP⟩
            case measure => omega
    · have hke : k = most := by omega
      subst hke
      have d0 := h0.cell 0
      have d1 := h0.cell 1
      have d2 := h0.cell 2
      have d3 := h0.cell 3
      have d4 := h0.cell 4
      have d5 := h0.cell 5
      simp at d0 d1 d2 d3 d4 d5
      have x0 := h1.cell 0
      have x1 := h1.cell 1
      have x2 := h1.cell 2
      have x3 := h1.cell 3
      have x4 := h1.cell 4
      have x5 := h1.cell 5
      have x6 := h1.cell 6
      simp at x0 x1 x2 x3 x4 x5 x6
      have y0 := h1.frozen 0
      have y1 := h1.frozen 1
      have y2 := h1.frozen 2
      have y3 := h1.frozen 3
      have y4 := h1.frozen 4
      have y5 := h1.frozen 5
      have y6 := h1.frozen 6
      rw [hln] at ho
      go_wp2
      refine bodyPost_ret (v := .agg #[.int .u64 (r.h 0 : Int), .int .u64 (r.h 1 : Int), .int .u64 (r.h 2 : Int), .int .u64 (r.h 3 : Int), .int .u8 (r.t : Int), .int .u8 (r.d : Int), .slice av k cv]) (by simp [results, Try.results15, go_sem, x0, x1, x2, x3, x4, x5, x6]) rfl ?_
      first | refine ⟨_, s.zs, rfl, ?_, by omega, hsb, ?_⟩ | refine ⟨_, rfl, s.zs, ?_, by omega, hsb, ?_⟩
      · exact (ho.kept (grownBy_set (grownBy_set (grownBy_set (grownBy_set (grownBy_set (grownBy_set (grownBy_set (World.grownBy.refl _ (some (w.heap.size + 1))) (.inl rfl) _) (.inl rfl) _) (.inl rfl) _) (.inl rfl) _) (.inl rfl) _) (.inl rfl) _) (.inl rfl) _) (.inl (fun e => by have := (ho.row e.symm).1; omega))).mono (by omega)
      · exact grownBy_set (grownBy_set (grownBy_set (grownBy_set (grownBy_set (grownBy_set (grownBy_set (hg) (.inr (by simp)) _) (.inr (by simp)) _) (.inr (by simp)) _) (.inr (by simp)) _) (.inr (by simp)) _) (.inr (by simp)) _) (.inr (by simp)) _
end Go.Proofs.Ytdlnilebnobllaa
