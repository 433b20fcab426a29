/- DummyBest over this seat's program. -/
import Derived.Test.YtpobcaopfeddgaaDoorDmRb
import Derived.Test.YtpobcaopfeddgaaDoorMDqa
import Derived.Test.YtpobcaopfeddgaaDoorDmAw
namespace Go.Proofs.YtpobcaopfeddgaaDoor
open Go.RowKit Go.Sort Go.Shelf Go.Maps Go.WideMaps

theorem OwnU.played {w : World} {base : Nat} {v : Value} {t : Tb} (h : OwnU w base v t.cs) (hk : TbOk t) : ∃ a cap, v = .slice a t.cs.length cap ∧ Byt w a t.cs.length t.cs := by
  obtain ⟨a, cap, e, -, -, -, -, hb⟩ := h.byt (by have := hk.pk.2; omega) fun i => by have := hk.getD i; omega
  exact ⟨a, cap, e, hb⟩
theorem deal_eq0 (W : World) : (Op.equalIn 10000 24 (.agg #[.int .u64 0, .int .u64 0, .int .u64 0, .int .u64 0]) (.agg #[.int .u64 0, .int .u64 0, .int .u64 0, .int .u64 0])).run Tryd.prog W = .ok true W := by kernel_rfl
/-- between the rounds of DummyBest: k cards are left, won tricks made -/
structure BI (tr b9 base M V : Nat) (L : List Nat) (lv : Value) (k won : Nat) (t : Tb) (q : Nat) (v : Value) (w W : World) : Prop where
  row : Row W b9 27 (posA t.h tr t.ld v)
  own : OwnU W base v t.cs
  line : OwnU W base lv L
  drop : L.drop (M - k) = lineV tr k t
  pos : PosT q t
  kq : k + t.cs.length = 4 * q
  q4 : q ≤ 4
  kM : k ≤ M
  won : won + val tr k t = V
  tab : Tab W
  below : Below w.heap.size w W
set_option maxHeartbeats 4000000 in
set_option maxRecDepth 10000 in
set_option linter.unusedSimpArgs false in
theorem law_DummyBest (a : Option Addr) (len cap : Nat) (zs : List Nat) (n tr ld : Nat) (w : World) (hz : Byt w a len zs) (hn : n < 256) (htr : tr < 256) (hld : ld < 256) (hT : Tab w) :
    Calls Tryd.prog 4 #[.slice a len cap, .int .u8 (n : Int), .int .u8 (tr : Int), .int .u8 (ld : Int)] w fun e w' => e = .returned (.bool true) ∧ Below w.heap.size w w' := by
  have HT := Lib.hid hT
  have HDE := Lib.hid (dm_Dealt a len cap zs n tr ld 4 hn htr hld (Nat.le_refl _) w hz)
  have hq4 : n % (4 + 1) ≤ 4 := by omega
  have ht5 : tr % 5 < 5 := by omega
  have hl4 : ld % 4 < 4 := by omega
  obtain ⟨q, hq⟩ : ∃ q, n % (4 + 1) = q := ⟨_, rfl⟩
  obtain ⟨t5, htt⟩ : ∃ q, tr % 5 = q := ⟨_, rfl⟩
  obtain ⟨l4, hll⟩ : ∃ q, ld % 4 = q := ⟨_, rfl⟩
  rw [hq, htt, hll] at HDE
  rw [hq] at hq4
  rw [htt] at ht5
  rw [hll] at hl4
  have hnq : (n : Int) % 5 = (q : Int) := by omega
  simp only [show ((4 : Nat) : Int) = 4 from rfl] at HDE
  clear hq htt hll hz hT
  have HNQ := Lib.hid hnq
  clear hnq
  go_enter Tryd.func4, Tryd.ntmps4
  go_wp2_with fail
  refine HDE.out.mono ?_
  rintro e w1 ⟨h, hD, rfl, hb1⟩
  have HD := Lib.hid hD
  have HPZ : Hid ((posA h t5 l4 (.slice none 0 0)).size = 7 ∧ (posA h t5 l4 (.slice none 0 0)).all (·.oneCell') = true) := Lib.hid ⟨rfl, by simp [posA, Value.oneCell']⟩
  have HSO := Lib.hid (fun W (hT : Tab W) => dm_Solve_ok h t5 l4 [] none 0 hD.w64 (by omega) (by omega) W (byt_nil W) hT q (hD.turn l4) hq4 (hD.right (by omega) (by omega) (by omega)))
  have HLI := Lib.hid (fun W (hT : Tab W) => dm_Line_ok h t5 l4 [] none 0 hD.w64 (by omega) (by omega) W (byt_nil W) hT q (hD.turn l4) hq4 (hD.right (by omega) (by omega) (by omega)))
  have HVL := Lib.hid (val_le t5 (4 * q) q ⟨h, l4, []⟩ (by simp) (hD.pos (by omega) (by omega)).evn (by simp))
  have HPO := Lib.hid (hD.pos (q := q) (by omega) (ld := l4) (by omega))
  obtain ⟨V, hV⟩ : ∃ V, val t5 (4 * q - ([] : List Nat).length) ⟨h, l4, []⟩ = V := ⟨_, rfl⟩
  have hV2 : val t5 (4 * q) ⟨h, l4, []⟩ = V := hV
  have HV := Lib.hid hV2
  rw [hV] at HSO
  rw [hV2] at HVL
  obtain ⟨L, hL⟩ : ∃ L, lineV t5 (4 * q - ([] : List Nat).length) ⟨h, l4, []⟩ = L := ⟨_, rfl⟩
  have hL2 : lineV t5 (4 * q) ⟨h, l4, []⟩ = L := hL
  have HL := Lib.hid hL2
  have HLL : Hid (L.length = 4 * q) := Lib.hid (by rw [← hL2, lineV_len])
  rw [hL] at HLI
  obtain ⟨PA, hPA⟩ : ∃ A, posA h t5 l4 (.slice none 0 0) = A := ⟨_, rfl⟩
  have HPA := Lib.hid hPA
  have hPA' : posA h t5 l4 (.slice none ([] : List Nat).length 0) = PA := hPA
  rw [hPA] at HPZ ⊢
  rw [hPA'] at HSO HLI
  have HN := Lib.hid (Row.new w1 27 zeroP)
  have ha := below_setRow ((Below.refl w1.heap.size w1).alloc (Nat.le_refl _) (.cells zeroP 27)) (Nat.le_refl _) PA
  have hr : Row ((w1.alloc (.cells zeroP 27)).setRow w1.heap.size PA) w1.heap.size 27 PA := setRow_heap _ _ _ _ _ _ HN.out
  have HR := Lib.hid hr
  have HB := Lib.hid (hb1.trans (ha.mono hb1.size))
  have HT2 := Lib.hid (HT.out.below HT.out.pos HB.out)
  have HL1 := Lib.hid (show w.heap.size ≤ w1.heap.size from hb1.size)
  clear hb1 ha hr hPA hPA' hV hV2 hD hL hL2
  go_upto_region 2 with (refine wpList_store_row rfl 27 (.tmp 9) (.tmp 36) rfl w1.heap.size PA rfl rfl 27 _ HN.out (by rw [HPZ.out.1]; exact size_pos) (by rw [HPZ.out.1]; rfl) HPZ.out.2 ?_)
  try dsimp only [Act.put]
  generalize (w1.alloc (.cells zeroP 27)).setRow w1.heap.size PA = w2 at *
  obtain ⟨b9, hb9⟩ : ∃ b, w1.heap.size = b := ⟨_, rfl⟩
  rw [hb9] at HR HL1 ⊢
  clear hb9
  go_wp2_with (refine wpList_load_row rfl 27 (.tmp 9) rfl b9 rfl 27 PA (0, 0) _ HR.out Tryd.underlying27 rfl (by rw [HPZ.out.1]; exact size_pos) ?_)
  refine (HLI.out _ HT2.out).mono ?_
  rintro e w3 ⟨lv, rfl, hol, hb3⟩
  have HR3 := Lib.hid (HR.out.later hb3)
  have HB3 := Lib.hid (HB.out.trans (hb3.mono HB.out.size))
  have HT3 := Lib.hid (HT2.out.below HT2.out.pos hb3)
  have HO3 := Lib.hid (hol.mono HB.out.size)
  obtain ⟨la, lc, rfl, -⟩ := hol.slice
  rw [HLL.out] at HO3 ⊢
  clear hb3 hol
  go_wp2_with (refine wpList_load_row rfl 27 (.tmp 9) rfl b9 rfl 27 PA (0, 0) _ HR3.out Tryd.underlying27 rfl (by rw [HPZ.out.1]; exact size_pos) ?_)
  refine (HSO.out _ HT3.out).mono ?_
  rintro e w4 ⟨rfl, hb4⟩
  have HR4 := Lib.hid (HR3.out.later hb4)
  have HB4 := Lib.hid (HB3.out.trans (hb4.mono HB3.out.size))
  have HT4 := Lib.hid (HT3.out.below HT3.out.pos hb4)
  have HO4 := Lib.hid (HO3.out.below hb4)
  clear hb4
  have HQ4 := Lib.hid hq4
  have HTL := Lib.hid (And.intro ht5 hl4)
  have hvq := HVL.out
  have hnq := HNQ.out
  obtain ⟨M, hM⟩ : ∃ M, 4 * q = M := ⟨_, rfl⟩
  have HMQ := Lib.hid hM
  have hM4 : ((M : Int) != 4 * (q : Int)) = false := by simp; omega
  have hM16 : M ≤ 16 := by omega
  rw [hM] at HO4 ⊢
  clear hM
  go_wp2_with fail
  clear hM4 hnq
  have HB9 := Lib.hid HL1.out
  go_loopg [14, 62] M (fun k wn i wr => ∃ (won : Nat) (t : Tb) (q1 : Nat) (v : Value), i = .int .i64 ((M - k : Nat) : Int) ∧ wn = .int .i64 (won : Int) ∧ BI t5 b9 w.heap.size M V L (.slice la M lc) k won t q1 v w wr)
  case atStart =>
    refine ⟨0, ⟨h, l4, []⟩, q, .slice none 0 0, by rw [Nat.sub_self]; rfl, rfl, ⟨by rw [HPA.out]; exact HR4.out, Owns.nil encU_len _ _, HO4.out, by rw [Nat.sub_self, List.drop_zero, ← HMQ.out]; exact HL.out.symm, HPO.out, HMQ.out.symm, HQ4.out, Nat.le_refl _, by rw [Nat.zero_add, ← HMQ.out]; exact HV.out, HT4.out, HB4.out⟩⟩
  case round =>
    obtain ⟨won, t, q1, v, rfl, rfl, hI⟩ := hrel
    have HI := Lib.hid hI
    have hkM := hI.kM
    rcases Nat.eq_zero_or_pos gk with hk0 | hk0
    · have hi : M - gk = M := by omega
      rw [hi]
      have hdk : decide (M < M) = false := by simp
      have hwv : won = V := by have := hI.won; rw [hk0] at this; exact this
      have HZERO : Hid (∀ s, s < 4 → t.h s = 0) := Lib.hid (fun s hs => by
        have h1 := hI.kq
        have h2 := hI.pos.ok.pk.2
        have h3 : q1 = 0 := by omega
        have h4 : t.cs = [] := List.length_eq_zero_iff.1 (by omega)
        have h5 := hI.pos.evn ((s + 4 - t.ld) % 4) (Nat.mod_lt _ (by decide))
        have h6 := hI.pos.ok.ld
        rw [h4, h3, if_neg (by simp), show (t.ld + (s + 4 - t.ld) % 4) % 4 = s by omega] at h5
        apply Nat.eq_of_testBit_eq
        intro c
        rw [Nat.zero_testBit]
        cases hb : (t.h s).testBit c
        · rfl
        · have h7 := (mem_bits (hI.pos.ok.w64 s) (c := c)).2 hb
          rw [Nat.add_zero, pop_len] at h5
          rw [List.length_eq_zero_iff.1 h5] at h7
          cases h7)
      have e0 := HZERO.out 0 (by decide)
      have e1 := HZERO.out 1 (by decide)
      have e2 := HZERO.out 2 (by decide)
      have e3 := HZERO.out 3 (by decide)
      have hrow := hI.row
      unfold posA at hrow
      rw [e0, e1, e2, e3] at hrow
      have c0 := hrow.cell 0
      have c1 := hrow.cell 1
      have c2 := hrow.cell 2
      have c3 := hrow.cell 3
      simp only [List.getElem?_toArray, List.getElem?_cons_zero, List.getElem?_cons_succ, show ((0 : Nat) : Int) = 0 from rfl] at c0 c1 c2 c3
      subst hwv
      clear hI hi hk0 e0 e1 e2 e3 hrow
      have heq := fun W => deal_eq0 W
      go_wp2_with fail
      refine (dm_awake _ HI.out.tab).mono ?_
      rintro e w6 ⟨rfl, hb6⟩
      have HB6 := Lib.hid (HI.out.below.trans (hb6.mono HI.out.below.size))
      clear hb6
      go_wp2_with fail
      go_ret
      exact ⟨rfl, HB6.out⟩
    · obtain ⟨k, rfl⟩ : ∃ k, gk = k + 1 := ⟨gk - 1, by omega⟩
      obtain ⟨i, hi⟩ : ∃ i, M - (k + 1) = i := ⟨_, rfl⟩
      have hiM : i < M := by omega
      have hdk : decide (i < M) = true := by simp; omega
      rw [hi]
      have hlen := hI.pos.ok.pk.2
      have hkq := hI.kq
      have hq14 := hI.q4
      have hqp : 0 < q1 := by omega
      have hcn := cards_some hI.pos.ok hI.pos.evn hqp
      have hbm := best_mem (tr := t5) (m := k) hcn
      obtain ⟨bw1, bw2, bw3⟩ := best_worth (tr := t5) (m := k) hcn
      obtain ⟨v0a, v0c, rfl, hbyt⟩ := hI.own.played hI.pos.ok
      have HBY := Lib.hid hbyt
      have hdr := hI.drop
      rw [hi] at hdr
      have hLi : L[i]? = some (t.best t5 k) := by
        have h1 := congrArg (fun l : List Nat => l[0]?) hdr
        simp only [List.getElem?_drop] at h1
        rw [Nat.add_zero] at h1
        exact h1
      have HI2 : Hid (M - k = i + 1) := Lib.hid (by omega)
      have hright := hI.pos.right (tr := t5) (by omega)
      have hturn : pop (t.h ((t.ld + t.cs.length) % 4)) = q1 := hI.pos.evn.turn hlen
      have hm1 : 4 * q1 - t.cs.length = k + 1 := by omega
      have hm2 : 4 * q1 - t.cs.length - 1 = k := by omega
      have HSO2 := Lib.hid (fun W (hT : Tab W) hz => dm_Solve_ok t.h t5 t.ld t.cs v0a v0c hI.pos.ok.w64 (by omega) (by have := hI.pos.ok.ld; omega) W hz hT q1 hturn hq14 hright)
      have HCH2 := Lib.hid (fun W (hT : Tab W) hz => dm_Choices_ok t.h t5 t.ld t.cs v0a v0c hI.pos.ok.w64 (by omega) (by have := hI.pos.ok.ld; omega) W hz hT q1 hturn hq14 hright)
      have HLE2 := Lib.hid (fun W hz => dm_Left_ok t.h t5 t.ld t.cs v0a v0c hI.pos.ok.w64 (by omega) (by have := hI.pos.ok.ld; omega) W hz hright)
      have hleg : Tb.legal ⟨t.h, t.ld, t.cs⟩ (t.best t5 k) = true := (mem_cards.1 hbm).2
      have HPL2 := Lib.hid (fun W hz => dm_Play_ok t.h t5 t.ld t.cs v0a v0c (t.best t5 k) hI.pos.ok.w64 (by omega) (by have := hI.pos.ok.ld; omega) W hz hright hleg)
      have hc52 : t.best t5 k < 52 := (mem_cards.1 hbm).1
      rw [hturn] at HLE2
      rw [hm1] at HSO2
      rw [hm2] at HCH2
      have hte : Tb.mk t.h t.ld t.cs = t := rfl
      rw [hte] at HSO2 HCH2 HPL2
      obtain ⟨B, hB⟩ : ∃ B, val t5 (k + 1) t = B := ⟨_, rfl⟩
      rw [hB] at bw1 bw2 bw3 HSO2
      have HBB := Lib.hid hB
      obtain ⟨q2, hp2, hq2, hw2, hk2⟩ := hI.pos.put t5 hbm
      have HNX := Lib.hid (And.intro hp2 (And.intro (Nat.le_trans hq2 hq14) (And.intro hw2 (hk2 k (by omega)))))
      have hwe : (t.put t5 (t.best t5 k)).2 + val t5 k (t.put t5 (t.best t5 k)).1 = B := bw1
      have hlv : L.drop (i + 1) = lineV t5 k (t.put t5 (t.best t5 k)).1 := by
        have h1 := congrArg List.tail hdr
        rw [List.tail_drop] at h1
        exact h1
      obtain ⟨c, hc⟩ : ∃ c, t.best t5 k = c := ⟨_, rfl⟩
      rw [hc] at hLi hc52 HPL2 HNX hwe hlv bw1 bw3 hbm
      have HBW := Lib.hid (And.intro bw1 (And.intro bw2 (And.intro bw3 hbm)))
      obtain ⟨u, hu⟩ : ∃ u, (t.put t5 c).1 = u := ⟨_, rfl⟩
      obtain ⟨wk, hwk⟩ : ∃ x, (t.put t5 c).2 = x := ⟨_, rfl⟩
      rw [hu, hwk] at HPL2 HNX hwe
      rw [hu] at hlv
      have HWE := Lib.hid hwe
      have HLV := Lib.hid hlv
      have HTN : Hid ((t.ld + t.cs.length) % 4 = t.turn) := Lib.hid rfl
      rw [HTN.out] at HLE2
      have htl := t.turn_lt
      -- the card
      obtain ⟨-, h0⟩ | ⟨gL, cL, hvL, -⟩ := hI.line.form
      · rw [h0] at hLi; cases hLi
      have hlL : L.length = M := by rw [HLL.out, HMQ.out]
      rw [hlL] at hvL
      simp only [Value.slice.injEq, true_and] at hvL
      obtain ⟨rfl, rfl⟩ := hvL
      have ck : _ = some (Value.int .u8 (c : Int)) := hI.line.cell i 0 (by decide) hLi
      rw [Nat.mul_one, Nat.add_zero] at ck
      have HROW := Lib.hid hI.row
      have HPZ2 : Hid ((posA t.h t5 t.ld (.slice v0a t.cs.length v0c)).size = 7) := Lib.hid rfl
      obtain ⟨PT, hPT⟩ : ∃ A, posA t.h t5 t.ld (.slice v0a t.cs.length v0c) = A := ⟨_, rfl⟩
      rw [hPT] at HROW HPZ2 HSO2 HCH2 HLE2 HPL2
      clear hPT hlen hkq hq14 hqp hcn hbm bw1 bw2 bw3 hbyt hdr hLi hright hturn hm1 hm2 hleg hte hB hp2 hq2 hw2 hk2 hwe hlv hc hu hwk hlL hI
      have hgk0 : M - (k + 1) = M - (k + 1) := rfl
      clear hgk0 hi hk0
      go_wp2_with (refine wpList_load_row rfl 27 (.tmp 9) rfl b9 rfl 27 PT (0, 0) _ HROW.out Tryd.underlying27 rfl (by rw [HPZ2.out]; exact size_pos) ?_)
      refine (HSO2.out _ HI.out.tab HBY.out).mono ?_
      rintro e w5 ⟨rfl, hb5⟩
      have HR5 := Lib.hid (HROW.out.later hb5)
      have HT5 := Lib.hid (HI.out.tab.below HI.out.tab.pos hb5)
      have HB5 := Lib.hid hb5
      have HY5 := Lib.hid (HBY.out.below (Nat.le_refl _) hb5)
      clear hb5
      go_wp2_with (refine wpList_load_row rfl 27 (.tmp 9) rfl b9 rfl 27 PT (0, 0) _ HR5.out Tryd.underlying27 rfl (by rw [HPZ2.out]; exact size_pos) ?_)
      refine (HCH2.out _ HT5.out HY5.out).mono ?_
      rintro e w6 ⟨v6, rfl, hoc, hb6⟩
      have HR6 := Lib.hid (HR5.out.later hb6)
      have HT6 := Lib.hid (HT5.out.below HT5.out.pos hb6)
      have HB6 := Lib.hid (HB5.out.trans (hb6.mono HB5.out.size))
      have HY6 := Lib.hid (HY5.out.below (Nat.le_refl _) hb6)
      have HOC := Lib.hid hoc
      clear hb6 hoc
      go_wp2_with (refine wpList_load_row rfl 27 (.tmp 9) rfl b9 rfl 27 PT (0, 0) _ HR6.out Tryd.underlying27 rfl (by rw [HPZ2.out]; exact size_pos) ?_)
      refine (HLE2.out _ HY6.out).mono ?_
      rintro e w7 ⟨rfl, hb7⟩
      have HR7 := Lib.hid (HR6.out.later hb7)
      have HT7 := Lib.hid (HT6.out.below HT6.out.pos hb7)
      have HB7 := Lib.hid (HB6.out.trans (hb7.mono HB6.out.size))
      have HY7 := Lib.hid (HY6.out.below (Nat.le_refl _) hb7)
      have HO7 := Lib.hid (HOC.out.below hb7)
      clear hb7
      obtain ⟨a6, c6, rfl, -⟩ := HO7.out.slice
      obtain ⟨N, hN⟩ : ∃ N, (t.cards.map fun c => (c, worth t5 k t c)).length = N := ⟨_, rfl⟩
      have HNN := Lib.hid hN
      rw [hN] at HO7 ⊢
      clear hN
      go_wp2_with fail
      have HLEN : Hid (∀ j : Nat, j < N → ∃ y : Nat × Nat, (t.cards.map fun c => (c, worth t5 k t c))[j]? = some y ∧ y.1 < 52 ∧ (t.ns = true → y.2 ≤ B) ∧ (t.ns = false → B ≤ y.2) ∧ (y.1 < c → y.2 ≠ B) ∧ (y.1 = c → y.2 = B)) := Lib.hid fun j hj => by
        have hl : j < (t.cards.map fun c => (c, worth t5 k t c)).length := by rw [HNN.out]; exact hj
        refine ⟨_, List.getElem?_eq_getElem hl, ?_⟩
        obtain ⟨d, hd, e⟩ := List.mem_map.1 (List.getElem_mem hl)
        rw [← e]
        have hb := HBW.out.2.1 d hd
        unfold better at hb
        refine ⟨(mem_cards.1 hd).1, fun h => ?_, fun h => ?_, fun h => HBW.out.2.2.1 d hd h, fun h => ?_⟩
        · rw [h] at hb; simpa using hb
        · rw [h] at hb; simpa using hb
        · have h : d = c := h
          subst h; exact HBW.out.1
      have HPAR : Hid (t.ns = true ∧ t.turn % 2 = 0 ∨ t.ns = false ∧ t.turn % 2 = 1) := Lib.hid (by
        unfold Tb.ns
        rcases Nat.mod_two_eq_zero_or_one t.turn with h | h
        · exact .inl ⟨by rw [h]; rfl, h⟩
        · exact .inr ⟨by rw [h]; rfl, h⟩)
      have HN16 : Hid (N ≤ 64) := Lib.hid (by
        rw [← HNN.out, List.length_map]; unfold Tb.cards; exact Nat.le_trans (List.length_filter_le ..) (by rw [List.length_range]; decide))
      obtain ⟨CL, hCL⟩ : ∃ l, (t.cards.map fun c => (c, worth t5 k t c)) = l := ⟨_, rfl⟩
      have HCL := Lib.hid hCL
      rw [hCL] at HO7 HLEN HNN
      clear hCL
      have hn64 := HN16.out
      obtain ⟨tu, htu⟩ : ∃ x, t.turn = x := ⟨_, rfl⟩
      rw [htu] at HPAR ⊢
      have htu4 : tu < 4 := by rw [← htu]; exact t.turn_lt
      go_loopg [24, 90] N (fun gj fl i wr2 => ∃ (j : Nat) (b : Bool), gj = N - j ∧ j ≤ N ∧ i = .int .i64 (j : Int) ∧ fl = .bool b ∧ (b = true ↔ ∀ x ∈ CL.take j, x.1 ≠ c) ∧ Below w7.heap.size w7 wr2)
      case atStart => exact ⟨0, true, by omega, by omega, rfl, rfl, by simp, Below.refl _ _⟩
      case round =>
        obtain ⟨j, fl, rfl, hj, rfl, rfl, hfl, hbr⟩ := hrel
        have HFL := Lib.hid hfl
        have HBR := Lib.hid hbr
        clear hfl hbr
        by_cases hlt : j < N
        · have hdj : decide (j < N) = true := by simp; omega
          obtain ⟨y, hy, hy52, hy1, hy2, hy3, hy4⟩ := HLEN.out j hlt
          obtain ⟨-, h0⟩ | ⟨g, cap, hv, hg1, hg2, -⟩ := HO7.out.form
          · rw [h0] at hy; cases hy
          rw [HNN.out] at hv
          simp only [Value.slice.injEq, true_and] at hv
          obtain ⟨rfl, rfl⟩ := hv
          have HRY : Hid (wr.rangeAt g (j * 2) [.int .u8 (y.1 : Int), .int .i64 (y.2 : Int)]) := Lib.hid fun i x hx => by
            have hi : i < 2 := (List.getElem?_eq_some_iff.1 hx).1
            have h1 := HO7.out.cell j i hi hy
            exact ((HBR.out.cell (p := ⟨g, j * 2 + i, none⟩) hg2).trans h1).trans hx
          go_upto_region 19 with (refine wpList_load_mid rfl 43 (.tmp 92) rfl g (j * 2) rfl _ _ HRY.out Tryd.underlying43 rfl size_ch ?_)
          obtain ⟨y1, y2⟩ := y
          dsimp only at hy52 hy1 hy2 hy3 hy4 HRY ⊢
          have ha := (Below.refl wr.heap.size wr).alloc (Nat.le_refl _) (.cells #[.int .u8 (y1 : Int), .int .i64 (y2 : Int)] 43)
          have hrn := Row.new wr 43 #[.int .u8 (y1 : Int), .int .i64 (y2 : Int)]
          have HBA := Lib.hid (HBR.out.trans (ha.mono HBR.out.size))
          have HTK : Hid (∀ b : Bool, (b = true ↔ fl = true ∧ y1 ≠ c) → (b = true ↔ ∀ x ∈ CL.take (j + 1), x.1 ≠ c)) := Lib.hid fun b hb => by
            rw [hb, HFL.out, List.take_add_one, hy, Option.toList_some]
            simp [or_imp, forall_and]
          obtain ⟨bc, hbc⟩ : ∃ b, wr.heap.size = b := ⟨_, rfl⟩
          rw [hbc] at hrn ⊢
          clear ha hbc hy
          generalize wr.alloc (.cells #[.int .u8 (y1 : Int), .int .i64 (y2 : Int)] 43) = wa at *
          have e0 : wa.cell? ⟨bc, 0, none⟩ = some (.int .u8 (y1 : Int)) := hrn.cell 0
          have e1 : wa.cell? ⟨bc, 1, none⟩ = some (.int .i64 (y2 : Int)) := hrn.cell 1
          clear hrn
          have hqb : (q1 : Int) = (q1 : Int) := rfl
          have HCS : Hid (((tu : Int) % 2 = 0 ∧ decide (B < y2) = false) ∨ ((tu : Int) % 2 = 1 ∧ decide (y2 < B) = false)) := Lib.hid (by
            rcases HPAR.out with ⟨h1, h2⟩ | ⟨h1, h2⟩
            · exact .inl ⟨by omega, decide_eq_false (by have := hy1 h1; omega)⟩
            · exact .inr ⟨by omega, decide_eq_false (by have := hy2 h1; omega)⟩)
          have HOS : Hid ((decide (y1 < c) = true ∧ ((y2 : Int) == (B : Int)) = false ∧ ((y1 : Int) == (c : Int)) = false ∧ ((y1 : Int) != (c : Int)) = true) ∨ (decide (y1 < c) = false ∧ ((y1 : Int) == (c : Int)) = true ∧ ((y2 : Int) != (B : Int)) = false ∧ ((y1 : Int) != (c : Int)) = false) ∨ (decide (y1 < c) = false ∧ ((y1 : Int) == (c : Int)) = false ∧ ((y1 : Int) != (c : Int)) = true)) := Lib.hid (by
            rcases Nat.lt_trichotomy y1 c with h | h | h
            · refine .inl ⟨by simpa using h, ?_, ?_, ?_⟩
              · rw [beq_eq_false_iff_ne]; have := hy3 h; omega
              · rw [beq_eq_false_iff_ne]; omega
              · rw [bne_iff_ne]; omega
            · refine .inr (.inl ⟨by simp; omega, ?_, ?_, ?_⟩)
              · rw [beq_iff_eq]; omega
              · have := hy4 h; rw [this]; simp
              · rw [h]; simp
            · refine .inr (.inr ⟨by simp; omega, ?_, ?_⟩)
              · rw [beq_eq_false_iff_ne]; omega
              · rw [bne_iff_ne]; omega)
          clear hy1 hy2 hy3 hy4 hqb hdj
          rcases HCS.out with ⟨hp, hc1⟩ | ⟨hp, hc1⟩ <;> rcases HOS.out with ⟨h1, h2, h3, h4⟩ | ⟨h1, h2, h3, h4⟩ | ⟨h1, h2, h3⟩ <;> cases fl
          all_goals
            go_wp2_with fail
            go_roundg (N - (j + 1))
            case measure => omega
            case rel =>
              refine ⟨j + 1, _, rfl, by omega, by simp, rfl, HTK.out _ ?_, HBA.out⟩
              first
                | (have h := h4; simp only [bne_iff_ne, bne_eq_false_iff_eq, Int.ofNat_inj, ne_eq] at h; simp [h])
                | (have h := h3; simp only [bne_iff_ne, bne_eq_false_iff_eq, Int.ofNat_inj, ne_eq] at h; simp [h])
        · obtain rfl : j = N := by omega
          have hdj : decide (j < j) = false := by simp
          obtain rfl : fl = false := by
            cases fl
            · rfl
            · exfalso
              have h1 := HFL.out.1 rfl (c, worth t5 k t c) (by
                rw [← HNN.out, List.take_length, ← HCL.out]
                exact List.mem_map.2 ⟨c, HBW.out.2.2.2, rfl⟩)
              exact h1 rfl
          have HR8 := Lib.hid (HR7.out.later HBR.out)
          have HT8 := Lib.hid (HT7.out.below HT7.out.pos HBR.out)
          have HB8 := Lib.hid (HB7.out.trans (HBR.out.mono HB7.out.size))
          have HY8 := Lib.hid (HY7.out.below (Nat.le_refl _) HBR.out)
          go_wp2_with (refine wpList_load_row rfl 27 (.tmp 9) rfl b9 rfl 27 PT (0, 0) _ HR8.out Tryd.underlying27 rfl (by rw [HPZ2.out]; exact size_pos) ?_)
          refine (HPL2.out _ HY8.out).mono ?_
          rintro e w9 ⟨v9, rfl, hov, hb9'⟩
          obtain ⟨v9a, v9c, rfl, hy9⟩ := hov.played HNX.out.1.ok
          have hright2 := HNX.out.1.right (tr := t5) (by have := HTL.out.1; omega)
          have hld2 : u.ld < 256 := by have := HNX.out.1.ok.ld; omega
          have ht256 : t5 < 256 := by have := HTL.out.1; omega
          have hturn2 : pop (u.h ((u.ld + u.cs.length) % 4)) = q2 := HNX.out.1.evn.turn HNX.out.1.ok.pk.2
          have HRG := Lib.hid (fun W hz => dm_Right u.h t5 u.ld u.cs v9a v9c HNX.out.1.ok.w64 ht256 hld2 W hz)
          have HSN := Lib.hid (fun W (hT : Tab W) hz => dm_Solve_ok u.h t5 u.ld u.cs v9a v9c HNX.out.1.ok.w64 ht256 hld2 W hz hT q2 hturn2 HNX.out.2.1 hright2)
          rw [hright2] at HRG
          have hm3 : 4 * q2 - u.cs.length = k := by have := HNX.out.2.2.2; omega
          rw [hm3] at HSN
          have hue : Tb.mk u.h u.ld u.cs = u := rfl
          rw [hue] at HSN
          have HR9 := Lib.hid (HR8.out.later hb9')
          have HT9 := Lib.hid (HT8.out.below HT8.out.pos hb9')
          have HB9' := Lib.hid (HB8.out.trans (hb9'.mono HB8.out.size))
          have HO9 := Lib.hid (hov.mono (base' := w.heap.size) (Nat.le_trans HI.out.below.size HB8.out.size))
          have HY9 := Lib.hid hy9
          clear hov hy9 hb9' hright2 hld2 ht256 hturn2 hm3 hue
          have HPX : Hid (posA u.h t5 u.ld (.slice v9a u.cs.length v9c) = #[.int .u64 (u.h 0 : Int), .int .u64 (u.h 1 : Int), .int .u64 (u.h 2 : Int), .int .u64 (u.h 3 : Int), .int .u8 (t5 : Int), .int .u8 (u.ld : Int), .slice v9a u.cs.length v9c]) := Lib.hid rfl
          unfold posA at HRG HSN ⊢
          obtain ⟨x0, hx0⟩ : ∃ x, u.h 0 = x := ⟨_, rfl⟩
          obtain ⟨x1, hx1⟩ : ∃ x, u.h 1 = x := ⟨_, rfl⟩
          obtain ⟨x2, hx2⟩ : ∃ x, u.h 2 = x := ⟨_, rfl⟩
          obtain ⟨x3, hx3⟩ : ∃ x, u.h 3 = x := ⟨_, rfl⟩
          obtain ⟨ul, hul⟩ : ∃ x, u.ld = x := ⟨_, rfl⟩
          obtain ⟨un, hun⟩ : ∃ x, u.cs.length = x := ⟨_, rfl⟩
          rw [hx0, hx1, hx2, hx3, hul, hun] at HPX HRG HSN ⊢
          rw [hun] at HY9
          have HUN := Lib.hid hun
          have HUL := Lib.hid hul
          clear hx0 hx1 hx2 hx3 hul hdj
          go_upto_region 26 with fail
          have ha := (Below.refl w9.heap.size w9).alloc (Nat.le_refl _) (.cells #[.int .u64 (x0 : Int), .int .u64 (x1 : Int), .int .u64 (x2 : Int), .int .u64 (x3 : Int), .int .u8 (t5 : Int), .int .u8 (ul : Int), .slice v9a un v9c] 27)
          have hrn := Row.new w9 27 #[.int .u64 (x0 : Int), .int .u64 (x1 : Int), .int .u64 (x2 : Int), .int .u64 (x3 : Int), .int .u8 (t5 : Int), .int .u8 (ul : Int), .slice v9a un v9c]
          have HR10 := Lib.hid (HR9.out.later ha)
          have HT10 := Lib.hid (HT9.out.below HT9.out.pos ha)
          have HB10 := Lib.hid (HB9'.out.trans (ha.mono HB9'.out.size))
          have HO10 := Lib.hid (HO9.out.below ha)
          have HY10 := Lib.hid (HY9.out.below (Nat.le_refl _) ha)
          have HN10 := Lib.hid hrn
          obtain ⟨bd, hbd⟩ : ∃ b, w9.heap.size = b := ⟨_, rfl⟩
          rw [hbd] at HN10 hrn ⊢
          clear ha hbd
          generalize w9.alloc (.cells #[.int .u64 (x0 : Int), .int .u64 (x1 : Int), .int .u64 (x2 : Int), .int .u64 (x3 : Int), .int .u8 (t5 : Int), .int .u8 (ul : Int), .slice v9a un v9c] 27) = w10 at *
          have d0 : w10.cell? ⟨bd, 0, none⟩ = some (.int .u64 (x0 : Int)) := hrn.cell 0
          have d1 : w10.cell? ⟨bd, 1, none⟩ = some (.int .u64 (x1 : Int)) := hrn.cell 1
          have d2 : w10.cell? ⟨bd, 2, none⟩ = some (.int .u64 (x2 : Int)) := hrn.cell 2
          have d3 : w10.cell? ⟨bd, 3, none⟩ = some (.int .u64 (x3 : Int)) := hrn.cell 3
          have d4 : w10.cell? ⟨bd, 4, none⟩ = some (.int .u8 (t5 : Int)) := hrn.cell 4
          have d5 : w10.cell? ⟨bd, 5, none⟩ = some (.int .u8 (ul : Int)) := hrn.cell 5
          have d6 : w10.cell? ⟨bd, 6, none⟩ = some (.slice v9a un v9c) := hrn.cell 6
          clear hrn
          go_wp2_with fail
          refine (HRG.out _ HY10.out).mono ?_
          rintro e w11 ⟨rfl, hb11⟩
          have HR11 := Lib.hid (HR10.out.later hb11)
          have HT11 := Lib.hid (HT10.out.below HT10.out.pos hb11)
          have HB11 := Lib.hid (HB10.out.trans (hb11.mono HB10.out.size))
          have HO11 := Lib.hid (HO10.out.below hb11)
          have HY11 := Lib.hid (HY10.out.below (Nat.le_refl _) hb11)
          have HN11 := Lib.hid (HN10.out.later hb11)
          have hwon : won ≤ 4 := by
            have h1 := HI.out.won
            have h2 := HVL.out
            have h3 := HQ4.out
            omega
          have hwk1 : wk ≤ 1 := HNX.out.2.2.1
          clear hb11 d0 d1 d2 d3 d4 d5 d6
          go_wp2_with (refine wpList_load_row rfl 27 (.tmp 27) rfl bd rfl 27 #[.int .u64 (x0 : Int), .int .u64 (x1 : Int), .int .u64 (x2 : Int), .int .u64 (x3 : Int), .int .u8 (t5 : Int), .int .u8 (ul : Int), .slice v9a un v9c] (0, 0) _ HN11.out Tryd.underlying27 rfl size_pos ?_)
          refine (HSN.out _ HT11.out HY11.out).mono ?_
          rintro e w12 ⟨rfl, hb12⟩
          have HR12 := Lib.hid (HR11.out.later hb12)
          have HT12 := Lib.hid (HT11.out.below HT11.out.pos hb12)
          have HB12 := Lib.hid (HB11.out.trans (hb12.mono HB11.out.size))
          have HO12 := Lib.hid (HO11.out.below hb12)
          have HN12 := Lib.hid (HN11.out.later hb12)
          have HL12 := Lib.hid (HI.out.line.below HB12.out)
          clear hb12
          obtain ⟨af, haf⟩ : ∃ x, val t5 k u = x := ⟨_, rfl⟩
          have hsum := HWE.out
          rw [haf] at hsum ⊢
          have HAF := Lib.hid haf
          have haf4 : af ≤ 100 := by
            have h1 := HI.out.won
            have h2 := HVL.out
            have h3 := HQ4.out
            have h4 := HBB.out
            omega
          have hneq : ((wk : Int) + (af : Int) != (B : Int)) = false := by rw [bne_eq_false_iff_eq]; omega
          clear haf hsum
          go_wp2_with (first
            | refine wpList_load_row rfl 27 (.tmp 27) rfl bd rfl 27 #[.int .u64 (x0 : Int), .int .u64 (x1 : Int), .int .u64 (x2 : Int), .int .u64 (x3 : Int), .int .u8 (t5 : Int), .int .u8 (ul : Int), .slice v9a un v9c] (0, 0) _ HN12.out Tryd.underlying27 rfl size_pos ?_
            | refine wpList_store_row rfl 27 (.tmp 9) (.tmp 178) rfl b9 #[.int .u64 (x0 : Int), .int .u64 (x1 : Int), .int .u64 (x2 : Int), .int .u64 (x3 : Int), .int .u8 (t5 : Int), .int .u8 (ul : Int), .slice v9a un v9c] rfl rfl 27 _ HR12.out size_pos (by rw [HPZ2.out]; rfl) (by simp [Value.oneCell']) ?_)
          have hset : ∀ b, b ≠ b9 → (w12.setRow b9 #[.int .u64 (x0 : Int), .int .u64 (x1 : Int), .int .u64 (x2 : Int), .int .u64 (x3 : Int), .int .u8 (t5 : Int), .int .u8 (ul : Int), .slice v9a un v9c]).heap[b]? = w12.heap[b]? := fun b hb => setRow_other _ _ _ _ hb
          have hrow : Row (w12.setRow b9 #[.int .u64 (x0 : Int), .int .u64 (x1 : Int), .int .u64 (x2 : Int), .int .u64 (x3 : Int), .int .u8 (t5 : Int), .int .u8 (ul : Int), .slice v9a un v9c]) b9 27 #[.int .u64 (x0 : Int), .int .u64 (x1 : Int), .int .u64 (x2 : Int), .int .u64 (x3 : Int), .int .u8 (t5 : Int), .int .u8 (ul : Int), .slice v9a un v9c] := setRow_heap _ _ _ _ _ _ HR12.out
          have hgr : w12.grownBy (w12.setRow b9 #[.int .u64 (x0 : Int), .int .u64 (x1 : Int), .int .u64 (x2 : Int), .int .u64 (x3 : Int), .int .u8 (t5 : Int), .int .u8 (ul : Int), .slice v9a un v9c]) (some b9) := ⟨rfl, rfl, rfl, by simp [World.setRow], fun b _ hb => hset b fun e => hb (by rw [e])⟩
          have hbb := below_setRow (HI.out.below.trans (HB12.out.mono HI.out.below.size)) HB9.out #[.int .u64 (x0 : Int), .int .u64 (x1 : Int), .int .u64 (x2 : Int), .int .u64 (x3 : Int), .int .u8 (t5 : Int), .int .u8 (ul : Int), .slice v9a un v9c]
          have htt := HT.out.below HT.out.pos hbb
          have hoo := HO12.out.kept hgr (.inl (own_apart HO12.out HR12.out (by decide)))
          have hll := HL12.out.kept hgr (.inl (own_apart HL12.out HR12.out (by decide)))
          generalize w12.setRow b9 #[.int .u64 (x0 : Int), .int .u64 (x1 : Int), .int .u64 (x2 : Int), .int .u64 (x3 : Int), .int .u8 (t5 : Int), .int .u8 (ul : Int), .slice v9a un v9c] = w13 at *
          clear hset hgr
          go_roundg k
          case measure => omega
          case rel =>
            refine ⟨won + wk, u, q2, .slice v9a un v9c, ?_, by simp, ?_⟩
            · rw [HI2.out, Int.natCast_succ]
            · refine ⟨by rw [HUL.out, HPX.out]; exact hrow, by rw [← HUN.out]; exact hoo, hll, by rw [HI2.out]; exact HLV.out, HNX.out.1, HNX.out.2.2.2, HNX.out.2.1, by have := HI.out.kM; omega, ?_, htt, hbb⟩
              have h1 := HI.out.won
              have h2 := HBB.out
              have h3 := HWE.out
              omega
end Go.Proofs.YtpobcaopfeddgaaDoor
