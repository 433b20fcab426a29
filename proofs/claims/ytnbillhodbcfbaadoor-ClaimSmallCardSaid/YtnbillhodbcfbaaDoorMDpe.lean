/- DmPe, DmPf in one text. -/
import Derived.Test.YtnbillhodbcfbaaDoorDmPd
import Derived.Test.YtnbillhodbcfbaaDoorMDtb

/- Positions over this seat's program: start, all. -/
namespace Go.Proofs.YtnbillhodbcfbaaDoor
open Go.RowKit Go.Sort Go.Shelf Go.Maps Go.WideMaps

theorem tbA_start (h : Nat → Nat) (ld : Nat) (ps : List Nat) {k : Nat} (hk : k < ps.length) (h4 : ps.length ≤ 3) :
    ((tbA ⟨h, ld, ps.take k⟩).setIfInBounds (6 + k) (.int .u8 (ps.getD k 0 : Int))).setIfInBounds 5 (.int .u8 ((k + 1 : Nat) : Int)) = tbA ⟨h, ld, ps.take (k + 1)⟩ := by
  obtain ⟨x, hx⟩ : ∃ x, ps[k]? = some x := ⟨_, List.getElem?_eq_getElem hk⟩
  have e : ps.take (k + 1) = ps.take k ++ [x] := by rw [List.take_add_one, hx]; rfl
  have hl : (ps.take k).length = k := by rw [List.length_take]; omega
  have hd : ps.getD k 0 = x := by rw [List.getD_eq_getElem?_getD, hx]; rfl
  rw [e, hd]
  generalize ps.take k = l at *
  unfold tbA
  simp only [List.length_append, List.length_singleton, hl]
  have hg : ∀ i, (l ++ [x]).getD i 0 = if i = k then x else l.getD i 0 := fun i => by
    rw [List.getD_eq_getElem?_getD, List.getD_eq_getElem?_getD]
    by_cases h1 : i < k
    · rw [List.getElem?_append_left (by omega), if_neg (by omega)]
    · by_cases h2 : i = k
      · rw [if_pos h2, List.getElem?_append_right (by omega), h2, hl, Nat.sub_self]; rfl
      · rw [if_neg h2, List.getElem?_append_right (by omega), List.getElem?_eq_none (by simp; omega), List.getElem?_eq_none (by omega)]
  rw [hg, hg, hg, hg]
  rcases (show k = 0 ∨ k = 1 ∨ k = 2 by omega) with rfl | rfl | rfl <;> simp
set_option maxHeartbeats 2000000 in
set_option maxRecDepth 10000 in
theorem dm_start (h : Nat → Nat) (tr ld : Nat) (ps : List Nat) (a : Option Addr) (cap : Nat) (hn : ps.length ≤ 3) (w : World) (hz : Byt w a ps.length ps) :
    Calls Tryd.prog 38 #[.agg (posA h tr ld (.slice a ps.length cap))] w fun e w' => e = .returned (.agg (tbA ⟨h, ld, ps⟩)) ∧ Below w.heap.size w w' := by
  have HST := Lib.hid (fun k (hk : k < ps.length) => tbA_start h ld ps hk hn)
  have HTL : Hid (ps.take ps.length = ps) := Lib.hid (List.take_length ..)
  have HT0 : Hid (ps.take 0 = []) := Lib.hid rfl
  have HLE := Lib.hid (fun k (hk : k ≤ ps.length) => show (ps.take k).length = k by rw [List.length_take]; omega)
  obtain ⟨n, hnn⟩ : ∃ n, ps.length = n := ⟨_, rfl⟩
  rw [hnn] at hz hn HST HTL HLE ⊢
  obtain ⟨PA, hPA⟩ : ∃ A, posA h tr ld (.slice a n cap) = A := ⟨_, rfl⟩
  have HPA := Lib.hid hPA
  rw [hPA]
  have HR := Lib.hid ((Row.new w 27 PA).alloc (.cells zeroT 76))
  have HZ0 := Lib.hid (Row.new1 w (.cells PA 27) 76 zeroT)
  have hb1 : Below w.heap.size w ((w.alloc (.cells PA 27)).alloc (.cells zeroT 76)) := ((Below.refl _ _).alloc (Nat.le_refl _) _).alloc (by simp) _
  have HB := Lib.hid hb1
  have HZ := Lib.hid (hz.below (Nat.le_refl _) hb1)
  have HZW := Lib.hid hz
  have HN := Lib.hid hn
  obtain ⟨b0, hb0⟩ : ∃ b, w.heap.size = b := ⟨_, rfl⟩
  have HB0 := Lib.hid hb0
  rw [hb0] at HR HZ0
  clear hPA hnn hz hb1
  go_enter Tryd.func38, Tryd.ntmps38
  go_upto_region 1 with fail
  clear hb0
  generalize (w.alloc (.cells PA 27)).alloc (.cells zeroT 76) = W1 at *
  have c6 : W1.cell? ⟨b0, 6, none⟩ = some (.slice a n cap) := (HR.out.cell 6).trans (by rw [← HPA.out]; rfl)
  have c5 : W1.cell? ⟨b0, 5, none⟩ = some (.int .u8 (ld : Int)) := (HR.out.cell 5).trans (by rw [← HPA.out]; rfl)
  have c0 : W1.cell? ⟨b0, 0, none⟩ = some (.int .u64 (h 0 : Int)) := (HR.out.cell 0).trans (by rw [← HPA.out]; rfl)
  have c1 : W1.cell? ⟨b0, 1, none⟩ = some (.int .u64 (h 1 : Int)) := (HR.out.cell 1).trans (by rw [← HPA.out]; rfl)
  have c2 : W1.cell? ⟨b0, 2, none⟩ = some (.int .u64 (h 2 : Int)) := (HR.out.cell 2).trans (by rw [← HPA.out]; rfl)
  have c3 : W1.cell? ⟨b0, 3, none⟩ = some (.int .u64 (h 3 : Int)) := (HR.out.cell 3).trans (by rw [← HPA.out]; rfl)
  go_upto_region 2 with fail
  have HL1 := Lib.hid (show b0 + 1 < W1.heap.size from HZ0.out.lt)
  have HR3 := Lib.hid (show Row (W1.alloc (.cells #[.int .u64 (h 0 : Int), .int .u64 (h 1 : Int), .int .u64 (h 2 : Int), .int .u64 (h 3 : Int), .int .u8 (ld : Int), .int .u8 0, .int .u8 0, .int .u8 0, .int .u8 0, .int .u8 0] 76)) W1.heap.size 76 (tbA ⟨h, ld, []⟩) from Row.new W1 _ _)
  have hb2 := (Below.refl W1.heap.size W1).alloc (Nat.le_refl _) (.cells #[.int .u64 (h 0 : Int), .int .u64 (h 1 : Int), .int .u64 (h 2 : Int), .int .u64 (h 3 : Int), .int .u8 (ld : Int), .int .u8 0, .int .u8 0, .int .u8 0, .int .u8 0, .int .u8 0] 76)
  have HR2 := Lib.hid (HR.out.later hb2)
  have HZ2 := Lib.hid (HZ0.out.later hb2)
  have HY2 := Lib.hid (HZ.out.below (Nat.le_refl _) hb2)
  have HB2 := Lib.hid (HB.out.trans (hb2.mono HB.out.size))
  obtain ⟨b3, hb3⟩ : ∃ b, W1.heap.size = b := ⟨_, rfl⟩
  have HB3 := Lib.hid (show w.heap.size ≤ b3 from by rw [← hb3]; exact HB.out.size)
  rw [hb3] at HR3 HL1 ⊢
  clear hb3 hb2 c0 c1 c2 c3 c5 c6 HR HZ0 HB HZ
  generalize W1.alloc (.cells #[.int .u64 (h 0 : Int), .int .u64 (h 1 : Int), .int .u64 (h 2 : Int), .int .u64 (h 3 : Int), .int .u8 (ld : Int), .int .u8 0, .int .u8 0, .int .u8 0, .int .u8 0, .int .u8 0] 76) = W2 at *
  have c6 : W2.cell? ⟨b0, 6, none⟩ = some (.slice a n cap) := (HR2.out.cell 6).trans (by rw [← HPA.out]; rfl)
  go_wp2_with fail
  clear c6 hn
  go_loopw [5, 14] (fun _ i wr => ∃ k : Nat, k ≤ n ∧ i = .int .i64 (k : Int) ∧ Row wr b3 76 (tbA ⟨h, ld, ps.take k⟩) ∧ Below b3 W2 wr) (fun _ i _ => n - (intOf i).toNat)
  case atStart => exact ⟨0, by omega, rfl, HR3.out, Below.refl _ _⟩
  case round =>
    obtain ⟨k, hk, rfl, hR, hB⟩ := hrel
    have HRk := Lib.hid hR
    have HBk := Lib.hid hB
    have hn := HN.out
    by_cases hlt : k < n
    · have hdk : decide (k < n) = true := by simp; omega
      obtain ⟨bb, off, ha, hbl, hcells⟩ := HY2.out.at (by omega)
      have hl1 := HL1.out
      have hbb : bb < b3 := by
        obtain ⟨bb', off', ha', hbl', -⟩ := HZW.out.at (by omega)
        rw [ha] at ha'
        simp only [Option.some.injEq, Addr.mk.injEq] at ha'
        have := HB3.out
        omega
      · have ek := (hB.cell (p := ⟨bb, off + k, none⟩) hbb).trans (hcells k hlt)
        have hx := HY2.out.byte k
        have HSTk := Lib.hid (HST.out k hlt)
        have HLk := HLE.out k hk
        have d5 : wr.cell? ⟨b3, 5, none⟩ = some (.int .u8 (k : Int)) := (hR.cell 5).trans (by show some (Value.int .u8 (((ps.take k).length : Nat) : Int)) = _; rw [HLk])
        have d6 : ∃ v, wr.cell? ⟨b3, 6 + k, none⟩ = some v := ⟨_, (hR.cell _).trans (tbA_c _ _ (by omega))⟩
        obtain ⟨v6, d6⟩ := d6
        have k6 := hR.frozen (6 + k)
        have k5 := hR.frozen 5
        have hki : (k : Int) < 4 := by omega
        have hne : ¬ (5 = 6 + k) := by omega
        have hne' : ¬ (6 + k = 5) := by omega
        obtain ⟨c, hc⟩ : ∃ c, ps.getD k 0 = c := ⟨_, rfl⟩
        rw [hc] at ek hx HSTk
        clear hc hcells hR hB HLk hbl hbb
        subst ha
        go_wp2_with fail
        refine ⟨⟨k + 1, by omega, by simp, ?_, (HBk.out.setCell (p := ⟨b3, 6 + k, none⟩) (Nat.le_refl _) _).setCell (p := ⟨b3, 5, none⟩) (Nat.le_refl _) _⟩, by simp [intOf]; omega⟩
        rw [← HSTk.out]
        exact (HRk.out.set (6 + k) (.int .u8 (c : Int))).set 5 (.int .u8 ((k + 1 : Nat) : Int))
    · obtain rfl : k = n := by omega
      have hdk : decide (k < k) = false := by simp
      rw [HTL.out] at HRk
      have HR4 := Lib.hid ((HZ2.out.below HL1.out HBk.out))
      have HB4 := Lib.hid (HB2.out.trans (HBk.out.mono HB3.out))
      clear hlt hR hB hk
      go_wp2_with (first
        | refine wpList_load_row rfl 76 (.tmp 3) rfl b3 rfl 76 (tbA ⟨h, ld, ps⟩) (0, 0) _ HRk.out Tryd.underlying76 rfl (by rw [show (tbA ⟨h, ld, ps⟩).size = 10 from rfl]; exact size_tb) ?_
        | refine wpList_store_row rfl 76 (.tmp 2) (.tmp 28) rfl (b0 + 1) (tbA ⟨h, ld, ps⟩) rfl rfl 76 _ HR4.out (by rw [show (tbA ⟨h, ld, ps⟩).size = 10 from rfl]; exact size_tb) rfl (tbA_one _) ?_)
      refine bodyPost_ret (v := .agg (tbA ⟨h, ld, ps⟩)) (results_cell1 Tryd.results38 _ _ (b0 + 1) _ (tbA ⟨h, ld, ps⟩) (0, 0) _ rfl (setRow_heap _ _ _ _ _ _ HR4.out) Tryd.underlying76 rfl (by rw [show (tbA ⟨h, ld, ps⟩).size = 10 from rfl]; exact size_tb)) rfl ⟨rfl, below_setRow HB4.out (by have := HB0.out; omega) _⟩
end Go.Proofs.YtnbillhodbcfbaaDoor

/- The solver over this seat's program: all. -/
namespace Go.Proofs.YtnbillhodbcfbaaDoor
open Go.RowKit Go.Sort Go.Shelf Go.Maps Go.WideMaps

theorem Fs.sure {q V r : Int} (h : Fs 0 q V r) (h0 : 0 ≤ r) (h1 : 0 ≤ V) (h2 : V ≤ q) : r = V := by
  obtain ⟨a, b, c⟩ := h
  by_cases e : r ≤ 0
  · have := a e; omega
  · by_cases e2 : q ≤ r
    · have := b e2; omega
    · exact (c (by omega) (by omega)).symm
theorem worth_le (tr n q : Nat) {t : Tb} (hl : t.cs.length < 4) (he : Evn q t) (hn : n + 1 + t.cs.length = 4 * q) {c : Nat} (hc : c < 64) (hb : (t.h t.turn).testBit c = true) : worth tr n t c ≤ q := by
  obtain ⟨w0, w1⟩ := put_won (t := t) tr c
  unfold worth
  rcases he.put hl tr hc hb with ⟨hk, he', hl'⟩ | ⟨hk, he', hl'⟩
  · have := val_le tr n q _ (by omega) he' (by omega)
    have := w0 hk
    omega
  · have := val_le tr n (q - 1) _ (by rw [hl']; simp) he' (by rw [hl']; simp; omega)
    omega
set_option maxHeartbeats 2000000 in
set_option maxRecDepth 10000 in
theorem dm_all {tr : Nat} (htr : tr < 256) (bs bm n : Nat) (t : Tb) (q m : Nat) (w : World) (hk : TbOk t) (hu : Uniq t) (he : Evn q t) (hm : m + t.cs.length = 4 * q) (hq : q ≤ 4) (hs : Slv tr bs bm n w) (hT : Tab w) (hn : n + 5 ^ m < maxLen) :
    Calls Tryd.prog 72 #[.pointer (some ⟨bs, 0, none⟩), .agg (tbA t)] w fun e w' => e = .returned (.int .i64 (val tr m t : Int)) ∧ Slv tr bs bm (n + 5 ^ m) w' ∧ But w.heap.size bm w w' := by
  have HB1 := Lib.hid (wok htr m)
  have HB2 := Lib.hid (fun q => bok htr q)
  have HVL := Lib.hid (val_le tr m q t hk.pk.2 he hm)
  have HK := Lib.hid hk
  have HU := Lib.hid hu
  have HE := Lib.hid he
  have HM := Lib.hid hm
  have HN := Lib.hid hn
  have HQ := Lib.hid hq
  have HP := Lib.hid (he.turn hk.pk.2)
  obtain ⟨TA, hTA⟩ : ∃ A, tbA t = A := ⟨_, rfl⟩
  have HTA := Lib.hid hTA
  have HTZ : Hid (TA.size = 10) := Lib.hid (by rw [← hTA]; rfl)
  have HTU := Lib.hid (fun W => dm_turn t hk W)
  rw [hTA] at HTU ⊢
  have hb1 := (Below.refl w.heap.size w).alloc (Nat.le_refl _) (.cells TA 76)
  have HR1 := Lib.hid (Row.new w 76 TA)
  have HB0 := Lib.hid hb1
  have HSW := Lib.hid (hs.below hb1)
  have HTW := Lib.hid (hT.below hT.pos hb1)
  clear hk hu he hm hn hs hT hTA hb1
  go_enter Tryd.func72, Tryd.ntmps72
  go_upto_region 1 with fail
  obtain ⟨b0, hb0⟩ : ∃ b, w.heap.size = b := ⟨_, rfl⟩
  have HBE := Lib.hid hb0
  rw [hb0] at HR1 ⊢
  clear hb0
  generalize w.alloc (.cells TA 76) = W1 at *
  go_wp2_with (refine wpList_load_row rfl 76 (.tmp 3) rfl b0 rfl 76 TA (0, 0) _ HR1.out Tryd.underlying76 rfl (by rw [HTZ.out]; exact size_tb) ?_)
  refine (HTU.out _).mono ?_
  rintro e w2 ⟨rfl, hb2⟩
  have HB3 := Lib.hid (HB0.out.trans (hb2.mono HB0.out.size))
  have HR2 := Lib.hid (HR1.out.later hb2)
  have HS2 := Lib.hid (HSW.out.below hb2)
  have HT2 := Lib.hid (HTW.out.below HTW.out.pos hb2)
  have ht4 := t.turn_lt
  have hti : (t.turn : Int) < 4 := by omega
  have cT : w2.cell? ⟨b0, t.turn, none⟩ = some (.int .u64 (t.h t.turn : Int)) := (HR2.out.cell _).trans (by rw [← HTA.out]; exact tbA_h t _ ht4)
  have HON := Lib.hid (fun W => bits_ones (t.h t.turn) (HK.out.w64 _) W)
  rw [HP.out] at HON
  have c5 : w2.cell? ⟨b0, 5, none⟩ = some (.int .u8 (t.cs.length : Int)) := (HR2.out.cell 5).trans (by rw [← HTA.out]; rfl)
  have c4 : w2.cell? ⟨b0, 4, none⟩ = some (.int .u8 (t.ld : Int)) := (HR2.out.cell 4).trans (by rw [← HTA.out]; rfl)
  have HRA : Hid (w2.rangeAt b0 0 [.int .u64 (t.h 0 : Int), .int .u64 (t.h 1 : Int), .int .u64 (t.h 2 : Int), .int .u64 (t.h 3 : Int)]) := Lib.hid (by
    intro j v hj
    have hj4 : j < 4 := by simpa using (List.getElem?_eq_some_iff.1 hj).1
    rw [Nat.zero_add, HR2.out.cell j, ← HTA.out]
    rcases (show j = 0 ∨ j = 1 ∨ j = 2 ∨ j = 3 by omega) with rfl | rfl | rfl | rfl <;> exact hj)
  clear hb2 HB0 HR1 HSW HTW HTU
  by_cases h0 : q = 0
  · have hqb : ((q : Int) == 0) = true := by rw [beq_iff_eq]; omega
    have H0 : Hid (val tr m t = 0) := Lib.hid (by have := HVL.out; omega)
    clear h0 hq
    go_wp2_with (refine (HON.out _).mono ?_; rintro e w3 ⟨rfl, rfl⟩)
    go_ret
    exact ⟨by rw [H0.out]; rfl, HS2.out.mono (Nat.le_add_right _ _), But.of_below HB3.out⟩
  · have hqb : ((q : Int) == 0) = false := by rw [beq_eq_false_iff_ne]; omega
    have H0 := Lib.hid (show 0 < q by omega)
    by_cases hc : t.cs = []
    · have hlb : ((t.cs.length : Int) == 0) = true := by rw [hc]; rfl
      have HC : Hid (t = ⟨t.h, t.ld, []⟩) := Lib.hid (by rw [← hc])
      have HMM : Hid (m = 4 * q) := Lib.hid (by have := HM.out; rw [hc] at this; simpa using this)
      clear hc h0
      go_wp2_with (first
        | ((with_reducible refine (HON.out _).mono ?_); rintro e w3 ⟨rfl, rfl⟩)
        | refine wpList_load_mid rfl 24 (.tmp 18) rfl b0 0 rfl _ _ HRA.out Tryd.underlying24 rfl size_de ?_)
      refine (HB2.out q bs bm n t.h t.ld 0 q w2 HK.out.pk.1 (HC.out ▸ HU.out) HK.out.ld (HC.out ▸ HE.out) HQ.out (by have := H0.out; omega) (by omega) (by omega) HS2.out HT2.out (by rw [← HMM.out]; exact HN.out)).mono ?_
      rintro e w3 ⟨r, rfl, hf, hr0, hr1, hs3, hb3⟩
      have HVV : Hid (r = (val tr m t : Int)) := Lib.hid (by
        have h1 := hf.sure hr0 (by omega) (by have := HVL.out; rw [HMM.out, HC.out] at this; omega)
        rw [h1, HMM.out, ← HC.out])
      have HS3 := Lib.hid hs3
      have HB4 := Lib.hid ((But.of_below (Bm := bm) HB3.out).trans (hb3.mono HB3.out.size))
      clear hf hr0 hr1 hs3 hb3
      go_wp2_with fail
      go_ret
      exact ⟨by rw [← HVV.out]; rfl, by rw [HMM.out]; exact HS3.out, HB4.out⟩
    · have hlb : ((t.cs.length : Int) == 0) = false := by
        rw [beq_eq_false_iff_ne]
        intro e
        exact hc (List.length_eq_zero_iff.1 (by omega))
      have HC := Lib.hid hc
      clear h0 hc
      go_wp2_with (first
        | ((with_reducible refine (HON.out _).mono ?_); rintro e w3 ⟨rfl, rfl⟩)
        | refine wpList_load_row rfl 76 (.tmp 3) rfl b0 rfl 76 TA (0, 0) _ HR2.out Tryd.underlying76 rfl (by rw [HTZ.out]; exact size_tb) ?_)
      rw [← HTA.out]
      refine (HB1.out bs bm n t q 0 q w2 HK.out HU.out HE.out (by have := HM.out; have := H0.out; have := HK.out.pk.2; omega) HM.out HQ.out (by have := H0.out; omega) (by omega) (by omega) HS2.out HT2.out HN.out).mono ?_
      rintro e w3 ⟨r, rfl, hf, hr0, hr1, hs3, hb3⟩
      have HVV : Hid (r = (val tr m t : Int)) := Lib.hid (hf.sure hr0 (by omega) (by have := HVL.out; omega))
      have HS3 := Lib.hid hs3
      have HB4 := Lib.hid ((But.of_below (Bm := bm) HB3.out).trans (hb3.mono HB3.out.size))
      clear hf hr0 hr1 hs3 hb3
      go_wp2_with fail
      go_ret
      exact ⟨by rw [← HVV.out]; rfl, HS3.out.mono (Nat.add_le_add_left (Nat.sub_le _ _) _), HB4.out⟩
end Go.Proofs.YtnbillhodbcfbaaDoor
